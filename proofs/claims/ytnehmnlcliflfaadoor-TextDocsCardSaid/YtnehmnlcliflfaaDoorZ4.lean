/- The machinery, part 4. -/
import Derived.Test.YtnehmnlcliflfaaDoorZ3
set_option linter.constructorNameAsVariable false
set_option linter.unusedVariables false
set_option linter.unusedSimpArgs false
set_option linter.unusedSectionVars false
namespace Go.Abs
open Go Go.RowKit
def updK {α:Type} (f:Nat->α) (i:Nat) (x:α):Nat->α:=λj=>if j=i then x else f j
theorem updK_self {α:Type} {f:Nat->α} {i:Nat} {x:α}:updK f i x i=x:=by simp [updK]
theorem kao {α:Type} {f:Nat->α} {i:Nat} {x:α} {j:Nat} (h:j<i):updK f i x j=f j:=by unfold updK; rw [if_neg (by omega)]
section
variable {P:Ye} {κ κ':Nat->Yb Nat} {ln ln':Nat->Nat} {z z':AH} {c:Cx sem} {s:TS sem} {env:Env} {h h':AH} {n n' N N':Nat}
theorem FamOk.map {t:Cx sem} {s':TS sem} (F:FamOk κ ln z c s n) (v:∀ id B,thp t s' id=some B->(∃ i,thp c s id=some i/\(B.isF=true->i.isF=true)/\κ' id = κ id/\ln' id=ln id)\/(B.isF=false/\∀ q,κ' id=some q->n<=q)) (hz:∀ id b B r,thp t s' id=some b->thp c s id=some B->B.isF=true->r∈kam (ln id)->z' r=none) (hn:n<=n'):FamOk κ' ln' z' t s' n':=by
 intro id B hB m;rcases v id B hB with ⟨i,l,y,h2,D⟩ | ⟨l,_⟩
 ·obtain ⟨C,A⟩:=F id i l (y m);rw [D];refine ⟨C,λr hr=>?_⟩;obtain ⟨k1,k2,k3,E⟩:=A r hr;refine ⟨by omega,hz id B i r hB l (y m) hr,λj b x=>?_,λj b x a f=>?_⟩
  ·rcases v j b x with ⟨u,a0,k,a2,a3⟩ | ⟨a0,k⟩
   ·rw [a2]; exact k3 j u a0
   ·intro e; have:=k r e; omega
  ·rcases v j b x with ⟨u,a0,k,a2,a3⟩ | ⟨a0,k⟩
   ·rw [a3] at f; exact E j u a0 (k a) f
   ·rw [a0] at a; cases a
 ·rw [l] at m; cases m
theorem BR.mono (A:∀ id,id<N->κ' id = κ id) (b:∀ id,id<N->ln' id=ln id) (hz:∀ q B,z q=some B->z' q=some B) (hN:N<=N') {id:Nat} {B:TB sem} (f:id<N) (D:∀ q AB,Ow κ ln id B q->h q=some AB->h' q=some AB) (J:BR P κ ln z h N id B):BR P κ' ln' z' h' N' id B:=by
 cases J with
 | bx T vs q asZ a hB E C=>exact .bx T vs q asZ (by rw [A id f]; exact a) (D q _ (.inl a) hB) (E.mono A b hz hN) C
 | el T t x q cs y a hB E C hl=>exact .el T t x q cs y (by rw [A id f]; exact a) (D q _ (.inl a) hB) (E.mono hz) C (by rw [b id f]; exact hl)
 | sl0 T t l y a hl hn=>exact .sl0 T t l y (by rw [A id f]; exact a) hl (by rw [b id f]; exact hn)
 | sl T t l q es y a hB E C hn=>exact .sl T t l q es y (by rw [A id f]; exact a) (D q _ (.inl a) hB) (E.mono hz) C (by rw [b id f]; exact hn)
 | mp k v l q K M a hB=>exact .mp k v l q K M (by rw [A id f]; exact a) (D q _ (.inl a) hB)
 | si x q a F hB=>exact .si x q (by rw [A id f]; exact a) F (D q _ (.inl a) hB)
 | fm0 T t j U u l H y a hl hn=>exact .fm0 T t j U u l H y (by rw [A id f]; exact a) hl (by rw [b id f]; exact hn)
 | fm T t j U u l H q es y a hB hn hl E F C=>
  refine .fm T t j U u l H q es y (by rw [A id f]; exact a) (D q _ (.inl a) hB) (by rw [b id f]; exact hn) hl (λi x e I h2 Q G L=>?_) (by rw [b id f]; exact F) C;rw [b id f] at G;refine (E i x e I h2 Q G L).mono hz λr B hr hB=>D r B (.inr ⟨rfl,?_⟩) hB;obtain ⟨r',m⟩:=I;simp only at hr; subst hr;exact kas G
theorem BR.elen {id q:Nat} {B:TB sem} (I:BR P κ ln z h N id B) (b:κ id=some q) {k:Nat} {T:Yc} {es:Ya (Ya AV)} (y:h q=some (.cells k T es)):∀ e∈es,e.length=k:=by
 intro e A;cases I with
 | bx T vs D asZ a hB f E=>
  rw [b] at a; cases a; rw [y] at hB; cases hB;simp at A; subst A; exact f.len
 | el T t x D cs m a hB f E hl=>
  rw [b] at a; cases a; rw [y] at hB; cases hB;simp at A; subst A; rw [<-f.len,kae t x m]
 | sl0 T t l m a hl hn=>rw [b] at a; cases a
 | sl T t l D es' m a hB f E hn=>
  rw [b] at a; cases a; rw [y] at hB; cases hB;obtain ⟨i,F⟩:=jcx A;have G:=(jae.1 F).1;have C:=f.1;rw [jax] at C;have:=(f.2 i e _ F (by rw [jaw,jad (by omega)]; rfl)).len;rw [kae t _ m] at this; exact this.symm
 | mp L v l D J M a hB=>rw [b] at a; cases a; rw [y] at hB; cases hB
 | si x D a H hB=>rw [b] at a; cases a; rw [y] at hB; cases hB
 | fm0 T t j U u l K m a=>rw [b] at a; cases a
 | fm T t j U u l K D es' m a hB hn hl f H E=>
  rw [b] at a; cases a; rw [y] at hB; cases hB;exact (E e A).1
theorem BR.row {id r:Nat} {T:Yc} {t:Ty} {j:Nat} {U:Yc} {u:Ty} {l:Ya t.den} {f:Yb Int} (C:BR P κ ln z h N id (.fm T t j U u l f)) (hr:r∈kam (ln id)) :
  ∃ (i m:Nat) (x:t.den) (e:Ya AV),(kad (ln id))[i]?=some (some r,m)/\l[i]?=some x/\f≠some (i:Int)/\FamE z h j U u.wd (t.enc x) e (some r,m):=by
 obtain ⟨⟨r',m⟩,E,v⟩:=jcd.1 hr;simp only at v; subst v;obtain ⟨i,a⟩:=jcx E;cases C with
 | fm0 _ _ _ _ _ _ _ y D hl hn=>rw [hn,show kad 0=[] from rfl] at a; simp at a
 | fm _ _ _ _ _ _ _ q es y D hB hn hl G B H=>
  have A:=(jae.1 a).1;have k:l[i]?=some (l[i]'(by omega)):=jad _;have F:es[i]?=some (es[i]'(by omega)):=jad _;have b:f≠some (i:Int):=λe=>by have:=B i _ e a; cases this
  exact ⟨i,m,_,_,a,k,b,G i _ _ _ k F a b⟩
theorem BR.live {id q:Nat} {B:TB sem} (t:BR P κ ln z h N id B) (j:Ow κ ln id B q):h q≠none:=by
 intro b;rcases j with j | ⟨u,hr⟩
 ·cases t with
  | bx _ _ k asZ a f=>rw [j] at a; cases a; rw [f] at b; cases b
  | el _ _ _ k cs l a f=>rw [j] at a; cases a; rw [f] at b; cases b
  | sl0 _ _ _ _ a=>rw [j] at a; cases a
  | sl _ _ _ k cs l a f=>rw [j] at a; cases a; rw [f] at b; cases b
  | mp _ _ _ k _ _ a f=>rw [j] at a; cases a; rw [f] at b; cases b
  | si _ k a _ f=>rw [j] at a; cases a; rw [f] at b; cases b
  | fm0 _ _ _ _ _ _ _ _ a=>rw [j] at a; cases a
  | fm _ _ _ _ _ _ _ k es l a f=>rw [j] at a; cases a; rw [f] at b; cases b
 ·cases B <;> simp only [TB.isF,jal] at u;obtain ⟨i,m,x,e,E,A,F,_,_,ys,_,_,D,es',v,y,C⟩:=t.row hr;rw [v] at b; cases b
theorem BR.elenO {id q:Nat} {B:TB sem} (f:BR P κ ln z h N id B) (a:Ow κ ln id B q) {k:Nat} {T:Yc} {es:Ya (Ya AV)} (b:h q=some (.cells k T es)):∀ e∈es,e.length=k:=by
 rcases a with a | ⟨l,hr⟩
 ·exact f.elen a b
 ·cases B <;> simp only [TB.isF,jal] at l;obtain ⟨i,m,x,e,C,y,D,_,_,ys,_,_,A,es',t,v,j⟩:=f.row hr;rw [t] at b; cases b;exact λe u=>(j e u).1
theorem kaK {b:Yb (TB sem)} {i id:Nat}:thp c { s with hp:=(i,b)::s.hp } id=if id=i then b else thp c s id:=by
 by_cases h:id=i <;> simp [thp,alk,h]
theorem thp_n {b:Yb (TB sem)} {i id N:Nat}:thp c { s with hp:=(i,b)::s.hp,n:=N } id=if id=i then b else thp c s id:=by
 by_cases h:id=i <;> simp [thp,alk,h]
theorem Rel.gN (R:Rel P κ ln z c s env h n):alk c.g s.n=none:=by
 cases a:alk s.hp s.n with
 | some b=>exact R.g _ _ a
 | none=>
  cases e:alk c.g s.n with
  | none=>rfl
  | some B=>
   have:thp c s s.n=some B:=by unfold thp; rw [a]; exact e
   exact absurd (R.lt _ _ this) (Nat.lt_irrefl _)
theorem Rel.zN (R:Rel P κ ln z c s env h n) {q:Nat} (a:n<=q):z q=none:=by
 cases hz:z q with
 | none=>rfl
 | some B=>have:=R.zin q B hz; rw [R.hn q a] at this; cases this
theorem Rel.new (R:Rel P κ ln z c s env h n) (B:TB sem) (k:Yb Nat) (l:Nat) (F:∀ q B,h q=some B->h' q=some B) (C:n<=n') (A:∀ q,k=some q->n<=q/\q<n') (E:∀ q,n'<=q->h' q=none)
  (hB:BR P (updK κ s.n k) (updK ln s.n l) z h' (s.n+1) s.n B) (hF:B.isF=false:=by rfl):Rel P (updK κ s.n k) (updK ln s.n l) z c { s with hp:=(s.n,some B)::s.hp,n:=s.n+1 } env h' n':=by
 have u:∀ id,id<s.n->updK κ s.n k id = κ id:=λid t=>kao t;have D:∀ id,id<s.n->updK ln s.n l id=ln id:=λid t=>kao t;refine ⟨λx=>(R.env x).mono u D (λ_ _ h=>h) (jbk _),λid m a=>?_,λid m a=>?_,λi j I J q t v ki y=>?_,λq m f=>F q m (R.zin q m f),λid m q a f=>?_,λid m q a f=>?_,E,R.e0,λid b a=>?_,R.dy,R.zk,R.fam.map (λid m a=>?_) (λid _ B r _ G h2 H=>((R.fam id B G h2).2 r H).2.1) C⟩
 ·rw [thp_n] at a;split at a
  ·rename_i e; cases a; subst e; exact hB
  ·exact (R.blk id m a).mono u D (λ_ _ h=>h) (jbk _) (R.lt id m a) λq B _=>F q B
 ·rw [thp_n] at a;split at a
  ·rename_i e; subst e; exact jbe _
  ·exact jdu (R.lt id m a)
 ·rw [thp_n] at t v;split at t
  ·rename_i e; subst e;rw [updK_self] at ki;split at v
   ·rename_i e; exact e.symm
   ·rw [u j (R.lt j _ v)] at y;have:=R.bnd j _ q v y;have:=A q ki;omega
  ·rw [u i (R.lt i _ t)] at ki;split at v
   ·rename_i e; subst e;rw [updK_self] at y;have:=R.bnd i _ q t ki;have:=A q y;omega
   ·rw [u j (R.lt j _ v)] at y;exact R.inj i j _ _ q t v ki y
 ·rw [thp_n] at a;split at a
  ·rename_i e; subst e;rw [updK_self] at f;exact R.zN (A q f).1
  ·rw [u id (R.lt id _ a)] at f; exact R.zout id m q a f
 ·rw [thp_n] at a;split at a
  ·rename_i e; subst e;rw [updK_self] at f;exact (A q f).2
  ·rw [u id (R.lt id _ a)] at f; exact jao (R.bnd id m q a f) C
 ·simp only [alk] at a;split at a
  ·rename_i e; subst e; exact R.gN
  ·exact R.g id b a
 ·rw [thp_n] at a;split at a
  ·rename_i e; cases a; subst e; exact .inr ⟨hF,λq f=>by rw [updK_self] at f; exact (A q f).1⟩
  ·exact .inl ⟨m,a,λh=>h,u id (R.lt id _ a),D id (R.lt id _ a)⟩
theorem kab {id:Nat} {B:TB sem} (a:alk s.hp id=some (some B)):thp c s id=some B:=by unfold thp; rw [a]
theorem Rel.set (R:Rel P κ ln z c s env h n) {id q:Nat} {m B:TB sem} {AB:ABlk} (l:alk s.hp id=some (some m)) (u:κ id=some q) (hB:BR P κ ln z (updH h q AB) s.n id B) (hF:B.isF=true->m.isF=true:=by intro h; cases h):Rel P κ ln z c { s with hp:=(id,some B)::s.hp } env (updH h q AB) n:=by
 have E:=R.bnd id m q (kab l) u;refine ⟨R.env,λi f a=>?_,λi f a=>?_,λi j C G k a y ki A=>?_,λk f hz=>?_,λi f k a ki=>?_,λi f k a ki=>?_,λk hn=>?_,R.e0,λi b a=>?_,R.dy,R.zk,R.fam.map (λi f a=>?_) (λid _ B r _ v h2 D=>((R.fam id B v h2).2 r D).2.1) (jah _)⟩
 ·rw [kaK] at a;split at a
  ·rename_i e; cases a; subst e; exact hB
  ·rename_i t;refine (R.blk i f a).mono (λ_ _=>rfl) (λ_ _=>rfl) (λ_ _ h=>h) (jah _) (R.lt i f a) λF C k1 v=>?_;unfold updH;rw [if_neg]; ·exact v
   rintro rfl;exact t (R.owI a (kab l) k1 (.inl u))
 ·rw [kaK] at a;split at a
  ·rename_i e; subst e; exact R.lt _ m (kab l)
  ·exact R.lt i f a
 ·have:∀ i f,thp c { s with hp:=(id,some B)::s.hp } i=some f->∃ x,thp c s i=some x:=λi f a=>by
   rw [kaK] at a;split at a
   ·rename_i e; subst e; exact ⟨m,kab l⟩
   ·exact ⟨_,a⟩
  obtain ⟨_,a⟩:=this i _ a;obtain ⟨_,y⟩:=this j _ y;exact R.inj i j _ _ k a y ki A
 ·unfold updH;split
  ·rename_i e; subst e; rw [R.zout id m _ (kab l) u] at hz; cases hz
  ·exact R.zin k f hz
 ·rw [kaK] at a;split at a
  ·rename_i e; subst e; exact R.zout _ m k (kab l) ki
  ·exact R.zout i f k a ki
 ·rw [kaK] at a;split at a
  ·rename_i e; subst e; exact R.bnd _ m k (kab l) ki
  ·exact R.bnd i f k a ki
 ·unfold updH;rw [if_neg (by omega)]; exact R.hn k hn
 ·simp only [alk] at a;split at a
  ·rename_i e; subst e; exact R.g _ _ l
  ·exact R.g i b a
 ·rw [kaK] at a;split at a
  ·rename_i e; cases a; subst e; exact .inl ⟨m,kab l,hF,rfl,rfl⟩
  ·exact .inl ⟨f,a,λh=>h,rfl,rfl⟩
theorem Rel.del (R:Rel P κ ln z c s env h n) {id:Nat} {v:TB sem} (m:alk s.hp id=some (some v)) (C:∀ q B,h' q=some B->h q=some B) (u:∀ q B,κ id≠some q->h q=some B->h' q=some B):Rel P κ ln z c { s with hp:=(id,none)::s.hp } env h' n:=by
 have sub:∀ i f,thp c { s with hp:=(id,none)::s.hp } i=some f->i≠id/\thp c s i=some f:=λi f a=>by
  rw [kaK] at a;split at a
  ·cases a
  ·rename_i e; exact ⟨e,a⟩
 refine ⟨R.env,λi f a=>?_,λi f a=>R.lt i f (sub i f a).2,λi j x G k a F ki y=>R.inj i j _ _ k (sub _ _ a).2 (sub _ _ F).2 ki y,λk f hz=>?_,λi f k a ki=>R.zout i f k (sub _ _ a).2 ki,λi f k a ki=>R.bnd i f k (sub _ _ a).2 ki,λk hn=>?_,R.e0,λi b a=>?_,R.dy,R.zk,R.fam.map (λi f a=>.inl ⟨f,(sub i f a).2,λh=>h,rfl,rfl⟩) (λid _ B r _ t h2 D=>((R.fam id B t h2).2 r D).2.1) (jah _)⟩
 ·obtain ⟨l,a⟩:=sub i f a;exact (R.blk i f a).mono (λ_ _=>rfl) (λ_ _=>rfl) (λ_ _ h=>h) (jah _) (R.lt i f a) λA x k1 t=>u A x (λe=>l (R.owI a (kab m) k1 (.inl e))) t
 ·exact u k f (λe=>by rw [R.zout id v _ (kab m) e] at hz; cases hz) (R.zin k f hz)
 ·cases E:h' k with
  | none=>rfl
  | some B=>have:=C k B E; rw [R.hn k hn] at this; cases this
 ·simp only [alk] at a;split at a
  ·rename_i e; subst e; exact R.g _ _ m
  ·exact R.g i b a
theorem kcd {α:Type}:∀ (ids:Ya Nat) (l:Ya (Nat×Yb α)) (i:Nat),alk (ids.map (λid=>(id,none))++l) i=if ids.contains i then some none else alk l i
 | [],l,i=>by simp
 | id::ids,l,i=>by
  simp only [jat,jdp,alk,kcd ids l i,List.contains_cons];by_cases h:i=id
  ·subst h; simp
  ·simp [h]
theorem Rel.retire (R:Rel P κ ln z c s env h n) {ids:Ya Nat} {s':TS sem} (G:retire s ids=some s'):Rel P κ ln (hz (ows κ ln c s) h z ids) c s' env h n/\s'.env=s.env/\s'.n=s.n/\(∀ id b,alk s.hp id=some b->id∉ids->alk s'.hp id=some b)/\(∀ id∈ids,∃ B,alk s.hp id=some (some B))/\(∀ id B,alk s'.hp id=some (some B)->id∉ids):=by
 unfold Abs.retire at G;split at G
 ·rename_i C;cases G;have t:∀ id∈ids,∃ B,alk s.hp id=some (some B):=λid a=>by
   have:=jam.1 C id a;split at this
   ·rename_i B hB; exact ⟨_,hB⟩
   ·cases this
  have sub:∀ i f,thp c { s with hp:=ids.map (λid=>(id,none))++s.hp,dy:=s.dy||!ids.isEmpty } i=some f->i∉ids/\thp c s i=some f:=λi f a=>by
   unfold thp at a ⊢;rw [kcd] at a;split at a
   ·rename_i b m;split at m
    ·cases m; cases a
    ·rename_i y;rw [m]; exact ⟨by simpa using y,a⟩
   ·rename_i m;split at m
    ·cases m
    ·rename_i y;rw [m]; exact ⟨by simpa using y,a⟩
  refine ⟨⟨λx=>(R.env x).mono (λ_ _=>rfl) (λ_ _=>rfl) (hz_z R.zin) (jah _),λi f a=>?_,λi f a=>R.lt i f (sub i f a).2,λi j S W D a H ki Q=>R.inj i j _ _ D (sub _ _ a).2 (sub _ _ H).2 ki Q,kbR R.zin,λi f D a ki=>?_,λi f D a ki=>R.bnd i f D (sub _ _ a).2 ki,R.hn,R.e0,λi b a=>?_,λI=>?_,λq k T es E e A=>?_,R.fam.map (λi f a=>.inl ⟨f,(sub i f a).2,λh=>h,rfl,rfl⟩) (λid f B r L F h2 K=>?_) (jah _)⟩,rfl,rfl,λid b m v=>?_,t,λid B m=>?_⟩
  ·exact (R.blk i f (sub i f a).2).mono (λ_ _=>rfl) (λ_ _=>rfl) (hz_z R.zin) (jah _) (R.lt i f (sub i f a).2) λU S k1 F=>F
  ·obtain ⟨v,a⟩:=sub i f a;unfold hz;rw [if_neg]
   ·exact R.zout i f D a ki
   ·intro l;obtain ⟨id,u,A⟩:=jbi.1 l;obtain ⟨B,hB⟩:=t id u;have:=R.owI a (kab hB) (.inl ki) (kbu (kab hB) (by simpa using A));subst this; exact v u
  ·replace a:alk (ids.map (λid=>(id,none))++s.hp) i=some b:=a;rw [kcd] at a;split at a
   ·rename_i y;obtain ⟨B,hB⟩:=t i (by simpa using y);exact R.g i _ hB
   ·exact R.g i b a
  ·simp only [jdn,Bool.not_eq_eq_eq_not,Bool.not_false,jcr] at I;rw [I.2,kaL]; exact R.dy I.1
  ·unfold hz at E;split at E
   ·rename_i l;obtain ⟨id,u,J⟩:=jbi.1 l;obtain ⟨B,hB⟩:=t id u;exact (R.blk id B (kab hB)).elenO (kbu (kab hB) (by simpa using J)) E e A
   ·exact R.zk q k T es E e A
  ·obtain ⟨_,M,X,_⟩:=(R.fam id B F h2).2 r K;unfold hz;rw [if_neg]
   ·exact M
   ·intro l;obtain ⟨j,H,A⟩:=jbi.1 l;obtain ⟨Bj,hBj⟩:=t j H;have:=R.owI F (kab hBj) (.inr ⟨h2,K⟩) (kbu (kab hBj) (by simpa using A));subst this; exact (sub _ _ L).1 H
  ·show alk (ids.map (λid=>(id,none))++s.hp) id=some b;rw [kcd,if_neg (by simpa using v)]; exact m
  ·replace m:alk (ids.map (λid=>(id,none))++s.hp) id=some (some B):=m;rw [kcd] at m;split at m
   ·cases m
   ·rename_i y; simpa using y
 ·cases G
def Ke (c:Cx sem) (N:Nat) (κ:Nat->Yb Nat) (ln:Nat->Nat) (κ':Nat->Yb Nat) (ln':Nat->Nat):Prop:=∀ id,id<N->κ' id = κ id/\(c.has id=true->ln' id=ln id)
theorem Ke.refl {c:Cx sem} {N:Nat} {κ:Nat->Yb Nat} {ln:Nat->Nat}:Ke c N κ ln κ ln:=λ_ _=>⟨rfl,λ_=>rfl⟩
theorem Ke.trans {c:Cx sem} {N M:Nat} {κ κ' b:Nat->Yb Nat} {ln ln' a:Nat->Nat} (h:Ke c N κ ln κ' ln') (h':Ke c M κ' ln' b a) (hN:N<=M):Ke c N κ ln b a:=λid f=>⟨(h' id (by omega)).1.trans (h id f).1,λe=>((h' id (by omega)).2 e).trans ((h id f).2 e)⟩
def calm (o:Oper):Bool:=!isW [] 0 o&&!kez o&&(match o.op with | .buildSlice _ _ _ | .move _ | .assign _ | .build _ _=>false | _=>true)
def Res (P:Ye) (κ:Nat->Yb Nat) (ln:Nat->Nat) (z:AH) (c:Cx sem) (s:TS sem) (env:Env) (h:AH) (n:Nat) (o:Oper) {ρ:Ty} (Kf:TV sem->TS sem->sem.Ans ρ) (r:ρ.den):Prop:=
 ∃ a s' v h' n' κ' ln' z',(∀ K:K3,K v h' n'->aop P env h n o K)/\Kf a s'=some r/\Rel P κ' ln' z' c s' env h' n'/\TVR P κ' ln' z' s'.n a v/\s.n<=s'.n/\Ke c s.n κ ln κ' ln'/\(calm o=true->s'=s/\h'=h/\n'=n/\κ' = κ/\ln'=ln/\z'=z)
variable {o:Oper} {ρ:Ty} {Kf:TV sem->TS sem->sem.Ans ρ} {r:ρ.den}
theorem Rel.q (R:Rel P κ ln z c s env h n) {a:TV sem} {v:AV} (e:∀ K:K3,K v h n->aop P env h n o K) (f:TVR P κ ln z s.n a v) (b:Kf a s=some r):Res P κ ln z c s env h n o Kf r:=
 ⟨a,s,v,h,n,κ,ln,z,e,b,R,f,jah _,λ_ _=>⟨rfl,λ_=>rfl⟩,λ_=>⟨rfl,rfl,rfl,rfl,rfl,rfl⟩⟩
theorem keg (u:calm o=false) (R:Rel P κ ln z c s env h n) {T:Yc} {t:Ty} {l:Ya t.den} {es:Ya (Ya AV)} (j:t.dat=true) (x:SnapE z es (l.map t.enc)) (m:∀ e∈es,∀ a∈e,a.one=true)
  (v:∀ K:K3,K (.ms n 0 l.length) (updH h n (.cells t.wd T es)) (n+1)->aop P env h n o K) (k:newSl (A:=sem) s T t l Kf=some r):Res P κ ln z c s env h n o Kf r:=by
 have y:=R.new (h':=updH h n (.cells t.wd T es)) (n':=n+1) (.sl T t l) (some n) l.length (λq B b=>by
   unfold updH; rw [if_neg]; ·exact b
   rintro rfl; rw [R.hn _ (jah _)] at b; cases b) (jbk _) (λq b=>by cases b; omega) (λq b=>by unfold updH; rw [if_neg (by omega)]; exact R.hn q (by omega))
  (.sl T t l n es j updK_self (by simp [updH]) x m updK_self.symm)
 exact ⟨.mw s.n,_,_,_,_,_,_,_,v,k,y,by have:=TVR.mw (P:=P) (κ:=updK κ s.n (some n)) (ln:=updK ln s.n l.length) (z:=z) (N:=s.n+1) s.n n (jbe _) updK_self; rw [updK_self] at this; exact this,jbk _,λid f=>⟨kao f,λ_=>kao f⟩,λi=>by rw [u] at i; cases i⟩
theorem kfn (i:calm o=false) (R:Rel P κ ln z c s env h n) {T:Yc} {t:Ty} (f:t.dat=true)
  (k:∀ K:K3,K nilS h n->aop P env h n o K) (j:newSl (A:=sem) s T t ([]:Ya t.den) Kf=some r):Res P κ ln z c s env h n o Kf r:=by
 have l:=R.new (h':=h) (n':=n) (.sl T t []) none 0 (λq B a=>a) (jah _) (λq a=>by cases a) R.hn (.sl0 T t [] f updK_self rfl updK_self);exact ⟨.mw s.n,_,_,_,_,_,_,_,k,j,l,.mw0 s.n (jbe _) updK_self,jbk _,λid e=>⟨kao e,λ_=>kao e⟩,λb=>by rw [i] at b; cases b⟩
theorem kfS (l:calm o=false) (R:Rel P κ ln z c s env h n) {T:Yc} {vs:Ya (TV sem)} {asZ:Ya AV} (f:TVRs P κ ln z s.n vs asZ) (k:∀ a∈asZ,a.one=true)
  (m:∀ K:K3,K (.own n 0 0) (updH h n (.cells asZ.length T [asZ])) (n+1)->aop P env h n o K) (j:newBx (A:=sem) s (.bx T vs) Kf=some r):Res P κ ln z c s env h n o Kf r:=by
 have t:=R.new (h':=updH h n (.cells asZ.length T [asZ])) (n':=n+1) (.bx T vs) (some n) 0 (λq B b=>by
   unfold updH; rw [if_neg]; ·exact b
   rintro rfl; rw [R.hn _ (jah _)] at b; cases b) (jbk _) (λq b=>by cases b; omega) (λq b=>by unfold updH; rw [if_neg (by omega)]; exact R.hn q (by omega))
  (.bx T vs n asZ updK_self (by simp [updH,f.len]) (f.mono (λid e=>kao e) (λid e=>kao e) (λ_ _ h=>h) (jbk _)) k)
 exact ⟨.ptr s.n 0,_,_,_,_,_,_,_,m,j,t,.ptr s.n 0 n (jbe _) updK_self,jbk _,λid e=>⟨kao e,λ_=>kao e⟩,λi=>by rw [l] at i; cases i⟩
theorem kiB (C:calm o=false) (R:Rel P κ ln z c s env h n) {T:Yc} {t:Ty} {x:t.den} {asZ:Ya AV} (i:t.dat=true) (k:SnapL z asZ (t.enc x)) (y:∀ a∈asZ,a.one=true)
  (D:∀ K:K3,K (.own n 0 0) (updH h n (.cells asZ.length T [asZ])) (n+1)->aop P env h n o K) (v:newBx (A:=sem) s (.el T t x) Kf=some r):Res P κ ln z c s env h n o Kf r:=by
 have f:asZ.length=t.wd:=by rw [<-kae t x i]; exact k.len.symm
 have E:=R.new (h':=updH h n (.cells asZ.length T [asZ])) (n':=n+1) (.el T t x) (some n) (match t with | .ar m _=>m | _=>0) (λq B b=>by
   unfold updH; rw [if_neg]; ·exact b
   rintro rfl; rw [R.hn _ (jah _)] at b; cases b) (jbk _) (λq b=>by cases b; omega) (λq b=>by unfold updH; rw [if_neg (by omega)]; exact R.hn q (by omega))
  (.el T t x n asZ i updK_self (by simp [updH,f]) k y (λm u e=>by subst e; exact updK_self))
 exact ⟨.ptr s.n 0,_,_,_,_,_,_,_,D,v,E,.ptr s.n 0 n (jbe _) updK_self,jbk _,λid j=>⟨kao j,λ_=>kao j⟩,λl=>by rw [C] at l; cases l⟩
theorem Snap.one_rev {a a':AV} (e:Snap z a a') (b:a'.one=true):a.one=true:=by
 cases e <;> first | exact b | rfl | (simp [AV.one] at b; done)
theorem SnapL.one_rev {a b:Ya AV} (h:SnapL z a b) (f:∀ x∈b,x.one=true):∀ x∈a,x.one=true:=by
 induction h with
 | nil=>intro x e; cases e
 | cons k h2 i=>
  intro x e;rcases jbu.1 e with rfl | e
  ·exact k.one_rev (f _ (by simp))
  ·exact i (λy j=>f y (by simp [j])) x e
end
theorem kru {l:Ya Ty} (h:∀ t∈l,t.dat=true):(stTy l).dat=true:=by
 have b:∀ l:Ya Ty,(∀ t∈l,t.dat=true)->(tup l).dat=true:=by
  intro l;induction l with
  | nil=>intro _; rfl
  | cons t ts a=>
   intro h;cases ts with
   | nil=>exact h t (by simp)
   | cons u ts=>simp only [tup,Ty.dat,jac]; exact ⟨h t (by simp),a λx e=>h x (by simp [e])⟩
 unfold stTy;split
 ·rfl
 ·simp only [Ty.dat]; exact h _ (by simp)
 ·exact b l h
theorem kmb {α β:Type} {f:α->Yb β} {p:β->Prop} (b:∀ x y,f x=some y->p y):∀ (l:Ya α) (r:Ya β),l.mapM f=some r->∀ y∈r,p y
 | [],r,h=>by simp at h; subst h; simp
 | x::l,r,h=>by
  simp only [jdh,Option.bind_eq_bind,jaa,Option.pure_def,Option.some.injEq] at h;obtain ⟨y,e,r',hr,rfl⟩:=h;intro w a;rcases jbu.1 a with rfl | a
  ·exact b x _ e
  ·exact kmb b l r' hr w a
theorem kkJ {P:Ye}:∀ (d:Nat) (T:Yc) (t:Ty),tyF P d T=some t->t.dat=true
 | 0,T,t,h=>by simp [tyF] at h
 | d+1,T,t,h=>by
  simp only [tyF] at h;split at h;any_goals (simp only [jab] at h)
  all_goals first | (cases h; rfl) | (cases h; done) | (obtain ⟨u,e,rfl⟩:=h; exact kkJ d _ u e) | skip
  ·obtain ⟨ts,a,rfl⟩:=h;exact kru (kmb (λx y b=>kkJ d _ y b) _ _ a)
theorem kci {P:Ye} {T:Yc} {t:Ty} (h:tyOf P T=some t):t.dat=true:=kkJ 9 T t h
section
variable {P:Ye} {κ κ':Nat->Yb Nat} {ln ln':Nat->Nat} {z z':AH} {c:Cx sem} {s:TS sem} {env:Env} {h h':AH} {n n' N N':Nat}
variable {o:Oper} {ρ:Ty} {Kf:TV sem->TS sem->sem.Ans ρ} {r:ρ.den}
variable {d:Yb Tmp} {ty:Yc} {pos:String} {after:Array Edge} {g:Yb (Nat×Bool)}
theorem kaa {α:Type} {r:α} (h:none=some r) {p:Prop}:p:=by cases h
theorem kiC (i:calm o=false) (R:Rel P κ ln z c s env h n) {T:Yc} {v:TV sem} {a:AV} (f:TVR P κ ln z s.n v a) (e:∀ K:K3,K a h n->aop P env h n o K) (b:moveX P s T v Kf=some r):Res P κ ln z c s env h n o Kf r:=by
 unfold moveX at b;split at b
 ·rename_i u;split at b
  ·rename_i hn;obtain rfl:=kaE hn;cases f;unfold nilV at b;split at b
   ·split at b
    ·rename_i t j;exact kfn i R (kci j) e b
    ·exact R.q e (.sc _ rfl) b
   ·exact R.q e (.sc _ rfl) b
  ·exact R.q e f b
 ·exact R.q e f b
theorem TVR.getB_inv {v:TV sem} {a:AV} {b:Bool} (f:TVR P κ ln z N v a) (e:getB v=some b):a = .sc (.bool b):=by
 cases f <;> try (simp only [getB,reduceCtorEq] at e; done)
 ·rename_i t x j i;cases t <;> simp only [getB,Option.some.injEq,reduceCtorEq] at e;subst e; exact i.sc_inv
 ·cases e; rfl
theorem TVR.i_inv {k:IntKind} {x:Int} {a:AV} (b:TVR P κ ln z N (.c (.i k) x) a):a = .sc (.int k x):=by
 cases b with | c _ _ _ _ hs=>exact hs.sc_inv
theorem TVR.b_inv {x:Bool} {a:AV} (e:TVR P κ ln z N (.c .b x) a):a = .sc (.bool x):=by
 cases e with | c _ _ _ _ hs=>exact hs.sc_inv
theorem TVR.s_inv {x:Ya UInt8} {a:AV} (b:TVR P κ ln z N (.c .s x) a):a=str x:=by
 cases b with | c _ _ _ _ hs=>exact hs.sc_inv
theorem TVR.i64_inv {v:TV sem} {x:Int} {a:AV} (e:TVR P κ ln z N v a) (b:kct v=some x):a = .sc (.int .i64 x):=by
 cases e <;> try (simp only [kct,reduceCtorEq] at b; done)
 rename_i t y i f;cases t <;> simp only [kct,reduceCtorEq] at b;rename_i k;cases k <;> simp only [kct,Option.some.injEq,reduceCtorEq] at b;subst b;exact f.sc_inv
theorem TVR.int (k:IntKind) (x:Int):TVR P κ ln z N (.c (.i k) x) (.sc (.int k x)):=.c (.i k) x _ rfl (.free _ (.sc _))
theorem TVR.bool (x:Bool):TVR P κ ln z N (.c .b x) (.sc (.bool x)):=.c .b x _ rfl (.free _ (.sc _))
theorem TVR.str (x:Ya UInt8):TVR P κ ln z N (.c .s x) (Abs.str x):=.c .s x _ rfl (.free _ (.sc _))
theorem TVR.free {t:Ty} {x:t.den} (a:t.dat=true):TVR P κ ln z N (.c t x) (t.av x):=.c t x _ a (.free _ (keV t x a))
theorem kbt {ρ:Ty} {b:Bool} {x y:sem.Ans ρ} {r:ρ.den} (h:sem.ite b x y=some r):(b=true/\x=some r)\/(b=false/\y=some r):=by
 cases b
 ·exact .inr ⟨rfl,by simpa using h⟩
 ·exact .inl ⟨rfl,by simpa using h⟩
theorem kdR {T:Yc} {zs:Ya AV} (hz:zeroO P T=some zs):∀ a∈zs,∃ v,a = .sc v/\v.oneCell'=true:=by
 unfold zeroO at hz;simp only [jaa] at hz;obtain ⟨i,l,k,j,hz⟩:=hz;split at hz
 ·rename_i b;cases hz;simp only [jac,jca] at b;intro a f;obtain ⟨v,e,rfl⟩:=jaz.1 f;exact ⟨v,rfl,b.1 v (by simpa using e)⟩
 ·cases hz
theorem kcv:∀ (zs:Ya AV) (Ts:Ya Yc) {κ:Nat->Yb Nat} {ln:Nat->Nat} {s:TS sem},Rel P κ ln z c s env h n->(∀ a∈zs,∃ v,a = .sc v/\v.oneCell'=true)->zs.length=Ts.length->
  ∃ κ' ln',Rel P κ' ln' z c (zeroC P s zs Ts).2 env h n/\TVRs P κ' ln' z (zeroC P s zs Ts).2.n (zeroC P s zs Ts).1 zs/\s.n<=(zeroC P s zs Ts).2.n/\(zeroC P s zs Ts).2.env=s.env/\(∀ id,id<s.n->κ' id = κ id)/\(∀ id,id<s.n->ln' id=ln id)/\
   (∀ id b,alk s.hp id=some b->id<s.n->alk (zeroC P s zs Ts).2.hp id=some b)
 | [],[],κ,ln,s,R,_,_=>⟨κ,ln,R,.nil,jah _,rfl,λ_ _=>rfl,λ_ _=>rfl,λ_ _ m _=>m⟩
 | [],_::_,_,_,_,_,_,hl=>by simp at hl
 | _::_,[],_,_,_,_,_,hl=>by simp at hl
 | a::zs,T::Ts,κ,ln,s,R,hz,hl=>by
  obtain ⟨v,rfl,H⟩:=hz _ (jdk ..);have k:∀ a∈zs,∃ v,a = .sc v/\v.oneCell'=true:=λa I=>hz a (jbc _ I);have j:zs.length=Ts.length:=by simpa using hl
  have f:∃ κ' ln',Rel P κ' ln' z c (zeroC P s zs Ts).2 env h n/\TVRs P κ' ln' z (zeroC P s zs Ts).2.n (ofVal sem v::(zeroC P s zs Ts).1) (.sc v::zs)/\s.n<=(zeroC P s zs Ts).2.n/\(zeroC P s zs Ts).2.env=s.env/\(∀ id,id<s.n->κ' id = κ id)/\(∀ id,id<s.n->ln' id=ln id)/\
   (∀ id b,alk s.hp id=some b->id<s.n->alk (zeroC P s zs Ts).2.hp id=some b):=by
   obtain ⟨κ',ln',D,x,h2,A,l,y,C⟩:=kcv zs Ts R k j;exact ⟨κ',ln',D,.cons _ _ _ _ (kfY v H) x,h2,A,l,y,C⟩
  simp only [zeroC];split
  ·rename_i hn;obtain rfl:=kaE hn;split
   ·rename_i e J;split
    ·rename_i t F;have E:=kci F;have G:=R.new (h':=h) (n':=n) (.sl e t []) none 0 (λq B u=>u) (jah _) (λq u=>by cases u) R.hn (.sl0 e t [] E updK_self rfl updK_self);obtain ⟨κ',ln',D,x,h2,A,l,y,C⟩:=kcv zs Ts G k j;refine ⟨κ',ln',D,.cons _ _ _ _ (.mw0 s.n (jao (jbe _) h2) (by rw [l s.n (jbe _)]; exact updK_self)) x,Nat.le_of_succ_le h2,A,λid i=>by rw [l id (jdu i)]; exact kao i,λid i=>by rw [y id (jdu i)]; exact kao i,λid b m i=>C id b (by simp only [alk]; rw [if_neg (by omega)]; exact m) (jdu i)⟩
    ·exact f
   ·exact f
  ·exact f
theorem knJ {t:Ty} {x:t.den} (e:∀ zs rest,isZ t zs=some rest->∃ a,zs=a++rest/\SnapL z a (t.enc x)):∀ (m:Nat) (zs rest:Ya AV),repO (isZ t) m zs=some rest->∃ a,zs=a++rest/\SnapL z a ((List.replicate m x).map t.enc).flatten
 | 0,zs,rest,h=>by simp [repO] at h; subst h; exact ⟨[],rfl,.nil⟩
 | m+1,zs,rest,h=>by
  simp only [repO,jaa] at h;obtain ⟨f,k,h2⟩:=h;obtain ⟨a,rfl,j⟩:=e zs f k;obtain ⟨b,rfl,i⟩:=knJ e m f rest h2;exact ⟨a++b,by simp,by simpa [List.replicate_succ] using j.append i⟩
theorem kbW:∀ (t:Ty) (x:t.den) (zs rest:Ya AV),t.dat=true->zeroD (A:=sem) t=some x->isZ t zs=some rest->∃ a,zs=a++rest/\SnapL z a (t.enc x)
 | .pr t u,x,zs,rest,hd,hx,hz=>by
  simp only [zeroD,jaa,jab] at hx;obtain ⟨y,j,E,h2,rfl⟩:=hx;simp only [isZ,jaa] at hz;obtain ⟨C,B,D⟩:=hz;simp only [Ty.dat,jac] at hd;obtain ⟨a,rfl,k1⟩:=kbW t y zs C hd.1 j B;obtain ⟨b,rfl,k2⟩:=kbW u E C rest hd.2 h2 D;exact ⟨a++b,by simp,k1.append k2⟩
 | .w t,x,zs,rest,hd,hx,hz=>by
  simp only [zeroD,jab] at hx;obtain ⟨y,j,rfl⟩:=hx;exact kbW t y zs rest hd j hz
 | .ar m t,x,zs,rest,hd,hx,hz=>by
  simp only [zeroD,jab] at hx;obtain ⟨y,j,rfl⟩:=hx;simp only [isZ] at hz;split at hz
  ·obtain ⟨a,e,B⟩:=knJ (z:=z) (λzs rest h=>kbW t y zs rest hd j h) m zs rest hz;exact ⟨a,e,B⟩
  ·cases hz
 | .un,x,zs,rest,hd,hx,hz=>by simp [isZ] at hz; subst hz; exact ⟨[],rfl,.nil⟩
 | .i k,x,zs,rest,hd,hx,hz=>by
  cases zs with
  | nil=>simp [isZ] at hz
  | cons a zs=>
   cases a <;> try (simp [isZ] at hz; done)
   rename_i v;cases v <;> try (simp [isZ] at hz; done)
   simp only [isZ] at hz;split at hz
   ·rename_i f;obtain ⟨rfl,rfl⟩:=f;cases hz; cases hx;exact ⟨[_],rfl,.cons (.free _ (.sc _)) .nil⟩
   ·cases hz
 | .b,x,zs,rest,hd,hx,hz=>by
  cases zs with
  | nil=>simp [isZ] at hz
  | cons a zs=>
   cases a <;> try (simp [isZ] at hz; done)
   rename_i v;cases v <;> try (simp [isZ] at hz; done)
   simp only [isZ] at hz;split at hz
   ·cases hz
   ·rename_i f;cases hz; cases hx;refine ⟨[_],rfl,.cons ?_ .nil⟩;rw [jcl] at f; subst f; exact .free _ (.sc _)
 | .s,x,zs,rest,hd,hx,hz=>by
  cases zs with
  | nil=>simp [isZ] at hz
  | cons a zs=>
   cases a <;> try (simp [isZ] at hz; done)
   rename_i v;cases v <;> try (simp [isZ] at hz; done)
   simp only [isZ] at hz;split at hz
   ·rename_i w f;cases hz; cases hx;refine ⟨[_],rfl,.cons ?_ .nil⟩;obtain ⟨⟨l⟩⟩:=w;simp at f; subst f;exact .free _ (.sc _)
   ·cases hz
 | .sl t,x,zs,rest,hd,hx,hz=>by
  cases zs with
  | nil=>simp [isZ] at hz
  | cons a zs=>
   cases a <;> try (simp [isZ] at hz; done)
   rename_i v;simp only [isZ] at hz;split at hz
   ·rename_i f;cases hz; cases hx;rw [kaE f];exact ⟨[_],rfl,.cons .nilS .nil⟩
   ·cases hz
 | .op t,x,zs,rest,hd,hx,hz=>by
  cases zs with
  | nil=>simp [isZ] at hz
  | cons a zs=>
   cases a <;> try (simp [isZ] at hz; done)
   rename_i v;simp only [isZ] at hz;split at hz
   ·rename_i f;cases hz; cases hx;rw [kfP f];exact ⟨[_],rfl,.cons (.free _ (.sc _)) .nil⟩
   ·cases hz
 | .pt _,x,zs,rest,hd,hx,hz=>by simp [zeroD] at hx
 | .nt,x,zs,rest,hd,hx,hz=>by simp [zeroD] at hx
 | .sm _ _,x,zs,rest,hd,hx,hz=>by simp [zeroD] at hx
 | .fn _ _ _,x,zs,rest,hd,hx,hz=>by simp [zeroD] at hx
end
section
variable {P:Ye} {κ κ':Nat->Yb Nat} {ln ln':Nat->Nat} {z z':AH} {c:Cx sem} {s:TS sem} {env:Env} {h h':AH} {n n' N N':Nat}
variable {ρ:Ty} {Kf:TV sem->TS sem->sem.Ans ρ} {r:ρ.den}
variable {d:Yb Tmp} {ty:Yc} {pos:String} {after:Array Edge} {g:Yb (Nat×Bool)}
theorem kmr (R:Rel P κ ln z c s env h n) {T:Yc} (b:koc P s T Kf=some r):Res P κ ln z c s env h n ⟨d,.alloc T,ty,pos,after,g⟩ Kf r:=by
 unfold koc at b;split at b
 ·rename_i zs Ts hz hT;split at b
  ·rename_i hl;have i:=kdR hz;have f:∀ a∈zs,a.one=true:=λa Q=>by obtain ⟨v,rfl,M⟩:=i a Q; exact M
   have A:newBx (zeroC P s zs Ts).2 (.bx T (zeroC P s zs Ts).1) Kf=some r->Res P κ ln z c s env h n ⟨d,.alloc T,ty,pos,after,g⟩ Kf r:=λb=>by
    obtain ⟨κ',ln',S,H,h2,W,G,I,X⟩:=kcv zs Ts R i hl;obtain ⟨D,s',v,h',n',F,m,z2,l,E,U,J,u⟩:=kfS (o:=⟨d,.alloc T,ty,pos,after,g⟩) rfl S H f (λK b=>by simp only [aop,hz]; exact b) b;exact ⟨D,s',v,h',n',F,m,z2,l,E,U,J,by have:=u.1; omega,λid C=>⟨(u.2.1 id (by omega)).1.trans (G id C),λk=>((u.2.1 id (by omega)).2 k).trans (I id C)⟩,λk=>by cases k⟩
   split at b
   ·rename_i t B;split at b
    ·exact A b
    ·split at b
     ·rename_i x L;split at b
      ·rename_i j;obtain ⟨rest,hr,y⟩:=jcp _ _ |>.1 j;obtain rfl:=jcr.1 y;obtain ⟨a,e,l⟩:=kbW (z:=z) t x zs [] (kci B) L hr;rw [jbf] at e; subst e;exact kiB rfl R (kci B) l f (λK b=>by simp only [aop,hz]; exact b) b
      ·exact kaa b
     ·exact kaa b
   ·exact A b
  ·exact kaa b
 ·exact kaa b
theorem kpD (R:Rel P κ ln z c s env h n) {T:Yc} {x:Yf} {v:TV sem} (I:TVR P κ ln z s.n v (ev env x)) (f:boxX s T v Kf=some r):Res P κ ln z c s env h n ⟨d,.box T x,ty,pos,after,g⟩ Kf r:=by
 have l:∀ vs,kar v=some vs->newBx s (.bx T vs) Kf=some r->Res P κ ln z c s env h n ⟨d,.box T x,ty,pos,after,g⟩ Kf r:=λvs C f=>by
  obtain ⟨asZ,B,h2⟩:=I.one_cells C;refine kfS rfl R h2 ?_ (λK f=>by simp only [aop,B]; exact f) f;generalize ev env x=a at *
  intro b u;cases I with
  | c t x a A D=>
   obtain ⟨cs,G,E⟩:=keU A D;rw [B] at G; cases G;exact E.one_rev (kaF t x A) b u
  | ag Q H _ L=>cases B; exact L b u
  | un | ud | tp | gs | yl | kp=>simp [kar] at C
  | sc w M=>cases B; simp at u; subst u; exact M
  | fq t x o a A D=>rcases D.fp_inv with ⟨cs,rfl,_⟩ | ⟨id,i,j,k,T,es,e,rfl,_⟩ <;> (cases B; simp at u; subst u; rfl)
  | cv m x y F a J=>obtain ⟨g,H,rfl,_⟩:=J; cases B; simp at u; subst u; rfl
  | _=>cases B; simp at u; subst u; rfl
 unfold boxX at f;split at f
 ·rename_i t y;split at f
  ·rename_i C;exact l _ (by simp only [kar,C,if_true]) f
  ·cases I with
   | c _ _ a A D=>
    obtain ⟨cs,G,E⟩:=keU A D;exact kiB rfl R A E (E.one_rev (kaF t y A)) (λK f=>by simp only [aop,G]; exact f) f
 ·split at f
  ·rename_i vs C;exact l vs C f
  ·exact kaa f
theorem kgd {t':Ty} {y:t'.den} {cs:Ya AV} {m:Nat} {ag:Bool} (f:t'.dat=true) (i:t'.agg=ag) (j:t'.wd=m) (b:SnapL z (cs.take m) (t'.enc y)) (hl:m<=cs.length) :
  ∃ a,TVR P κ ln z N (.c t' y) a/\(ag=true->a = .ag (cs.take m))/\(ag=false->cs[0]?=some a):=by
 cases ag with
 | true=>exact ⟨.ag (cs.take m),.c _ _ _ f (by rw [kcT i]; exact Snap.agL b),λ_=>rfl,(λe=>by cases e)⟩
 | false=>
  have k:=kqA i f;rw [kcV i f] at b;cases cs with
  | nil=>simp at hl; omega
  | cons a cs=>
   rw [show m=1 by omega] at b;simp only [List.take_succ_cons,jdd] at b;cases b with
   | cons k1 _=>exact ⟨a,.c _ _ _ f k1,(λe=>by cases e),λ_=>rfl⟩
theorem kbw {α:Type} {l:Ya α} {i:Int} {y:α} (h:gi l i=some y):0<=i/\l[i.toNat]?=some y/\i.toNat<l.length:=by
 obtain ⟨a,h2⟩:=kke h;exact ⟨a,h2,(jae.1 h2).1⟩
theorem SnapE.at {es es':Ya (Ya AV)} (f:SnapE z es es') {q:Nat} {e':Ya AV} (a:es'[q]?=some e'):∃ e,es[q]?=some e/\SnapL z e e':=by
 obtain ⟨e,b⟩:=kaf f.1 a;exact ⟨e,b,f.2 q e e' b a⟩
theorem keq {α β:Type} {l:Ya α} {f:α->β} {q:Nat} {y:α} (h:l[q]?=some y):(l.map f)[q]?=some (f y):=by rw [jaw,h]; rfl
theorem krp {t:Ty} {x:t.den} {o:Nat} {a:AV} (b:∀ q B,z q=some B->h q=some B) (m:Snap z a (.fp ((t.enc x).drop o))):∃ cs,deref h a=some cs/\SnapL z cs ((t.enc x).drop o):=by
 rcases m.fp_inv with ⟨cs,rfl,f⟩ | ⟨id,i,j,k,T,es,e,rfl,f,h2,l⟩
 ·exact ⟨cs,rfl,f⟩
 ·exact ⟨e.drop j,by simp only [deref,b _ _ f,h2]; rfl,l⟩
theorem kdS:∀ (t:Ty) (x:t.den) (o m:Nat) (ag:Bool) {t':Ty} {y:t'.den},t.dat=true->comp (A:=sem) t x o m ag=some ⟨t',y⟩->t'.dat=true/\t'.agg=ag/\t'.wd=m/\o+m<=t.wd/\((t.enc x).drop o).take m=t'.enc y
 | .pr t u,x,o,m,ag,t',y,hd,hc=>by
  simp only [Ty.dat,jac] at hd;have C:=kae t x.1 hd.1;have D:=kae u x.2 hd.2;show _/\_/\_/\o+m<=t.wd+u.wd/\((t.enc x.1++u.enc x.2).drop o).take m=_;simp only [comp] at hc;split at hc
  ·rename_i e;obtain ⟨rfl,rfl,rfl⟩:=e;cases hc;exact ⟨by simp [Ty.dat,hd],rfl,rfl,by omega,by rw [jcg,jbl (by simp; omega)]; rfl⟩
  ·split at hc
   ·rename_i l;obtain ⟨k,f,v,B,j⟩:=kdS t x.1 o m ag hd.1 hc;refine ⟨k,f,v,by omega,?_⟩;rw [List.drop_append_of_le_length (by omega),List.take_append_of_le_length (by simp; omega)];exact j
   ·split at hc
    ·rename_i l;obtain ⟨k,f,v,B,j⟩:=kdS u x.2 (o-t.wd) m ag hd.2 hc;refine ⟨k,f,v,by omega,?_⟩;rw [List.drop_append,jbr (by omega),jay,C];exact j
    ·cases hc
 | .w t,x,o,m,ag,t',y,hd,hc=>by
  simp only [comp] at hc;split at hc
  ·rename_i e;obtain ⟨rfl,rfl,rfl⟩:=e;cases hc;have a:=kae (.w t) x hd;simp only [Ty.wd] at a;exact ⟨hd,rfl,rfl,by simp [Ty.wd],by rw [jcg,jbl (by omega)]⟩
  ·exact kdS t x o m ag hd hc
 | .i _,x,o,m,ag,t',y,hd,hc | .b,x,o,m,ag,t',y,hd,hc | .s,x,o,m,ag,t',y,hd,hc | .un,x,o,m,ag,t',y,hd,hc
 | .sl _,x,o,m,ag,t',y,hd,hc | .pt _,x,o,m,ag,t',y,hd,hc | .op _,x,o,m,ag,t',y,hd,hc | .ar _ _,x,o,m,ag,t',y,hd,hc=>by
  simp only [comp] at hc;split at hc
  ·rename_i e;obtain ⟨rfl,rfl,rfl⟩:=e;cases hc;have a:=kae _ x hd;exact ⟨hd,rfl,rfl,by omega,by rw [jcg,jbl (by omega)]⟩
  ·cases hc
 | .nt,x,o,m,ag,t',y,hd,hc=>by simp [Ty.dat] at hd
 | .sm _ _,x,o,m,ag,t',y,hd,hc=>by simp [Ty.dat] at hd
 | .fn _ _ _,x,o,m,ag,t',y,hd,hc=>by simp [Ty.dat] at hd
theorem kfJ (R:Rel P κ ln z c s env h n) {T:Yc} {x:Yf} {t:Ty} {y:t.den} {j m:Nat} {ag:Bool} {D:Ya AV} (f:t.dat=true) (e:aggO P T=some ag) (A:P.cellsOf T=m) (hp:deref h (ev env x)=some D) (k:SnapL z (D.take (t.wd-j)) ((t.enc y).drop j))
  (b:partX t y j m ag (λv=>Kf v s)=some r):Res P κ ln z c s env h n ⟨d,.load T x,ty,pos,after,g⟩ Kf r:=by
 unfold partX at b;split at b
 ·rename_i p C;obtain ⟨t',F⟩:=p;obtain ⟨u,l,E,G,B⟩:=kdS t y j m ag f C;have hl:=k.len;rw [jdo,kae t y f,jbh] at hl;have i:=k.take m;rw [B,List.take_take,Nat.min_eq_left (by omega)] at i;obtain ⟨a,k1,k2,k3⟩:=kgd (P:=P) (κ:=κ) (ln:=ln) (N:=s.n) u l E i (by omega);refine R.q (λK b=>?_) k1 b;simp only [aop,hp,loadK,e];cases ag with
  | true=>refine ⟨by omega,?_⟩; rw [A,<-k2 rfl]; exact b
  | false=>exact ⟨a,k3 rfl,b⟩
 ·exact kaa b
theorem kgK (R:Rel P κ ln z c s env h n) {T:Yc} {x:Yf} {t:Ty} {y:t.den} {j m:Nat} {ag:Bool} {cs:Ya AV} (b:t.dat=true) (a:aggO P T=some ag) (f:P.cellsOf T=m) (e:SnapL z cs (t.enc y)) (hp:deref h (ev env x)=some (cs.drop j))
  (i:partX t y j m ag (λv=>Kf v s)=some r):Res P κ ln z c s env h n ⟨d,.load T x,ty,pos,after,g⟩ Kf r:=by
 refine kfJ R b a f hp ?_ i;have hl:=e.len;rw [kae t y b] at hl;rw [jbl (by simp; omega)];exact e.drop j
theorem kmg (R:Rel P κ ln z c s env h n) {T:Yc} {x:Yf} {t:Ty} {y:t.den} {j m:Nat} {ag:Bool} (b:t.dat=true) (a:aggO P T=some ag) (f:P.cellsOf T=m) (k:Snap z (ev env x) (.fp ((t.enc y).drop j)))
  (i:partX t y j m ag (λv=>Kf v s)=some r):Res P κ ln z c s env h n ⟨d,.load T x,ty,pos,after,g⟩ Kf r:=by
 obtain ⟨cs,hp,e⟩:=krp R.zin k;refine kfJ R b a f hp ?_ i;have hl:=e.len;rw [jdo,kae t y b] at hl;rw [jbl (by omega)];exact e
theorem kjc {q id j:Nat} {x:Yf} {k:Nat} {T:Yc} {asZ:Ya AV} (a:ev env x = .own q 0 j) (b:h q=some (.cells k T [asZ])):deref h (ev env x)=some (asZ.drop j):=by
 rw [a]; simp only [deref,b]; rfl
theorem kfE {q i j:Nat} {x:Yf} {k:Nat} {T:Yc} {es:Ya (Ya AV)} {e:Ya AV} (a:ev env x = .own q i j) (b:h q=some (.cells k T es)) (f:es[i]?=some e):deref h (ev env x)=some (e.drop j):=by
 rw [a]; simp only [deref,b,f]; rfl
theorem kjO {α:Type} {k:Nat} {f:α->Ya AV} (b:∀ y,(f y).length=k):∀ (l:Ya α) (i:Nat) (y:α),l[i]?=some y->(((l.map f).flatten).drop (i*k)).take k=f y
 | [],i,y,h=>by simp at h
 | a::l,0,y,h=>by simp at h; subst h; simp [<-b a]
 | a::l,i+1,y,h=>by
  have:=kjO b l i y (by simpa using h);rw [jat,List.flatten_cons,List.drop_append,jbr (by rw [b a,jds]; omega),jay,b a,show (i+1)*k-k=i*k by rw [jds]; omega];exact this
theorem kon (R:Rel P κ ln z c s env h n) {T:Yc} {x:Yf} {v:TV sem} (G:TVR P κ ln z s.n v (ev env x)) (b:loadX P c s T v Kf=some r):Res P κ ln z c s env h n ⟨d,.load T x,ty,pos,after,g⟩ Kf r:=by
 unfold loadX at b;split at b
 ·exact kaa b
 ·rename_i ag D;simp only at b;split at b
  ·rename_i id j;generalize J:ev env x=a at G;cases G with
   | ptr _ _ q hN F=>
    split at b
    ·rename_i Y vs hB;cases R.blk _ _ hB with
     | bx _ _ Z asZ u H A U=>
      rw [F] at u; cases u;have hp:=kjc (id:=id) J H;have hl:=A.len;split at b
      ·rename_i E;split at b
       ·rename_i ah;refine R.q (λK b=>?_) (.ag _ _ ((A.drop j).take _) (λa ha=>U a (jcy (jcw ha)))) b;simp only [aop,hp,loadK,D,E];exact ⟨by simp; omega,b⟩
       ·exact kaa b
      ·rename_i E;split at b
       ·rename_i v ad;obtain ⟨a,ha,ab⟩:=A.at ad;refine R.q (λK b=>?_) ab b;simp only [aop,hp,loadK,D];rw [jcl] at E; subst E;exact ⟨a,by rw [jas]; simpa using ha,b⟩
       ·exact kaa b
    ·rename_i Y t y hB;cases R.blk _ _ hB with
     | el _ _ _ Z cs C u H A U hl=>
      rw [F] at u; cases u;exact kgK R C D rfl A (kjc (id:=id) J H) b
    ·exact kaa b
  ·rename_i id i j;generalize J:ev env x=a at G;cases G with
   | adr _ _ _ q hN F h0 U=>
    split at b
    ·rename_i Y t l hB;simp only [jaa] at b;obtain ⟨y,S,b⟩:=b;obtain ⟨_,W,Q⟩:=kbw S;cases R.blk _ _ hB with
     | sl0 _ _ _ C u hl hn=>rw [F] at u; cases u
     | sl _ _ _ Z es C u H A X hn=>
      rw [F] at u; cases u;obtain ⟨e,M,L⟩:=A.at (keq W);exact kgK R C D rfl L (kfE J H M) b
    ·exact kaa b
  ·rename_i id i;generalize J:ev env x=a at G;cases G with
   | aa _ _ q hN F h0 U=>
    split at b
    ·rename_i Y m t y hB;split at b
     ·exact kaa b
     rename_i B;replace B:t.wd=1:=by simpa using B
     simp only [jaa] at b;obtain ⟨w,S,b⟩:=b;obtain ⟨_,W,Q⟩:=kbw S;cases R.blk _ _ hB with
     | el _ _ _ Z cs C u H A X hl=>
      rw [F] at u; cases u;have h2:=kjO (k:=1) (f:=t.enc) (λy=>by rw [kae t y C,B]) y.l i.toNat w W;have I:=(A.drop i.toNat).take 1;rw [Nat.mul_one] at h2;replace I:SnapL z ((cs.drop i.toNat).take 1) (((y.l.map t.enc).flatten.drop i.toNat).take 1):=I;rw [h2] at I;exact kfJ (t:=t) (y:=w) (j:=0) R C D rfl (kjc (id:=id) J H) (by rw [B]; exact I) b
    ·exact kaa b
  ·rename_i id i k;generalize J:ev env x=a at G;cases G with
   | ax _ _ _ q hN F h0 U af=>
    split at b
    ·rename_i Y m t l hB;split at b
     ·exact kaa b
     rename_i B;replace B:t.wd=1:=by simpa using B
     simp only [jaa] at b;obtain ⟨y,ac,w,S,b⟩:=b;obtain ⟨_,ae,_⟩:=kbw ac;obtain ⟨_,W,Q⟩:=kbw S;cases R.blk _ _ hB with
     | sl0 _ _ _ C u hl hn=>rw [F] at u; cases u
     | sl _ _ _ Z es C u H A X hn=>
      rw [F] at u; cases u;replace C:t.dat=true:=C;obtain ⟨e,M,L⟩:=A.at (keq ae);have h2:=kjO (k:=1) (f:=t.enc) (λy=>by rw [kae t y C,B]) y.l k.toNat w W;have I:=(L.drop k.toNat).take 1;rw [Nat.mul_one] at h2;replace I:SnapL z ((e.drop k.toNat).take 1) (((y.l.map t.enc).flatten.drop k.toNat).take 1):=I;rw [h2] at I;exact kfJ (t:=t) (y:=w) (j:=0) R C D rfl (kfE J H M) (by rw [B]; exact I) b
    ·exact kaa b
  ·rename_i t y j;cases G with
   | fq _ _ _ _ C hs=>exact kmg R C D rfl hs b
  ·rename_i t y;cases G with
   | c _ _ _ C hs=>exact kmg (t:=t) (y:=y) (j:=0) R C D rfl (by simpa [Ty.av,Ty.agg,Ty.enc] using hs) b
  ·exact kaa b
end
section
variable {P:Ye} {κ κ':Nat->Yb Nat} {ln ln':Nat->Nat} {z z':AH} {c:Cx sem} {s:TS sem} {env:Env} {h h':AH} {n n' N N':Nat}
variable {ρ:Ty} {Kf:TV sem->TS sem->sem.Ans ρ} {r:ρ.den}
variable {d:Yb Tmp} {ty:Yc} {pos:String} {after:Array Edge} {g:Yb (Nat×Bool)}
theorem kpF (R:Rel P κ ln z c s env h n) {x:Yf} {v:TV sem} (l:TVR P κ ln z s.n v (ev env x)) (f:nilX c s v Kf=some r):Res P κ ln z c s env h n ⟨d,.nilCheck x,ty,pos,after,g⟩ Kf r:=by
 have fin:∀ {w:TV sem},TVR P κ ln z s.n w (ev env x)->liveA h (ev env x)=true->Kf w s=some r->Res P κ ln z c s env h n ⟨d,.nilCheck x,ty,pos,after,g⟩ Kf r:=λH hl f=>R.q (λK f=>by simp only [aop]; exact ⟨hl,f⟩) H f;have live:∀ {a:AV} {cs:Ya AV},Snap z a (.fp cs)->liveA h a=true:=λE=>by
  rcases E.fp_inv with ⟨cs,I,_⟩ | ⟨id,i,j,k,T,es,e,I,J,h2,L⟩
  ·rw [I]; rfl
  ·rw [I]; simp only [liveA,R.zin _ _ J]; rfl
 unfold nilX at f;split at f
 ·rename_i id j;split at f
  ·rename_i C;obtain ⟨B,hB,A⟩:=(jcp _ _).1 C;refine fin l ?_ f;generalize ev env x=a at l;cases l with
   | ptr _ _ q hN u=>
    simp only [liveA];cases R.blk _ _ hB with
    | bx _ _ F asZ b m=>rw [u] at b; cases b; rw [m]; rfl
    | el _ _ _ F cs D b m=>rw [u] at b; cases b; rw [m]; rfl
    | sl0 _ _ _ _ b=>rw [u] at b; cases b
    | sl _ _ _ F cs D b m=>rw [u] at b; cases b; rw [m]; rfl
    | mp=>simp [kbO] at A
    | si=>simp [kbO] at A
    | fm0 _ _ _ _ _ _ _ _ b=>rw [u] at b; cases b
    | fm _ _ _ _ _ _ _ F _ D b m=>rw [u] at b; cases b; rw [m]; rfl
  ·exact kaa f
 ·refine fin l ?_ f;cases l with | fq _ _ _ _ D E=>exact live E
 ·refine fin l ?_ f;cases l with | c _ _ _ D E=>exact live (cs:=_) (by simpa [Ty.av,Ty.agg,Ty.enc] using E)
 ·refine fin l ?_ f;generalize ev env x=a at l;cases l; rfl
 ·refine fin l ?_ f;generalize ev env x=a at l;cases l with | cv _ _ _ _ _ hc=>obtain ⟨g,asZ,rfl,_⟩:=hc; rfl
 ·rename_i id i j;split at f
  ·rename_i C;obtain ⟨B,hB,A⟩:=(jcp _ _).1 C;refine fin l ?_ f;generalize ev env x=a at l;cases l with
   | adr _ _ _ q hN u=>
    simp only [liveA];cases R.blk _ _ hB with
    | bx _ _ F asZ b m=>rw [u] at b; cases b; rw [m]; rfl
    | el _ _ _ F cs D b m=>rw [u] at b; cases b; rw [m]; rfl
    | sl0 _ _ _ _ b=>rw [u] at b; cases b
    | sl _ _ _ F cs D b m=>rw [u] at b; cases b; rw [m]; rfl
    | mp=>simp [kbO] at A
    | si=>simp [kbO] at A
    | fm0 _ _ _ _ _ _ _ _ b=>rw [u] at b; cases b
    | fm _ _ _ _ _ _ _ F _ D b m=>rw [u] at b; cases b; rw [m]; rfl
  ·exact kaa f
 ·rename_i t y;simp only [jaa] at f;obtain ⟨w,H,f⟩:=f;replace H:y=some w:=H;subst H;cases l with
  | c _ _ _ D E=>
   have G:Snap z (ev env x) (.fp (t.enc w)):=by simpa [Ty.av,Ty.agg,Ty.enc,ptrE] using E
   exact fin (.fq t w 0 _ D (by simpa using G)) (live G) f
 ·cases f
 ·exact kaa f
theorem wk_eq (k:IntKind) (x:Int):wk k x=k.wrap x:=by cases k <;> rfl
theorem kro (R:Rel P κ ln z c s env h n) {f:BinOp} {T u:Yc} {x y:Yf} {k l:IntKind} {a b:Int} (A:ev env x = .sc (.int k a)) (v:ev env y = .sc (.int l b)) (e:binX P c s f T (.c (.i k) a) (.c (.i l) b) Kf=some r) :
  Res P κ ln z c s env h n ⟨d,.binOp f T x y u,ty,pos,after,g⟩ Kf r:=by
 have fin:∀ {k2:IntKind} {w:Int},(∀ F:AV->Prop,F (.sc (.int k2 w))->abinI f k a l b F)->Kf (.c (.i k2) w) s=some r->Res P κ ln z c s env h n ⟨d,.binOp f T x y u,ty,pos,after,g⟩ Kf r:=λm e=>
  R.q (λK e=>by simp only [aop,A,v,abin]; exact m _ e) (.int _ _) e
 have finB:∀ {w:Bool},(∀ F:AV->Prop,F (.sc (.bool w))->abinI f k a l b F)->Kf (.c .b w) s=some r->Res P κ ln z c s env h n ⟨d,.binOp f T x y u,ty,pos,after,g⟩ Kf r:=λm e=>
  R.q (λK e=>by simp only [aop,A,v,abin]; exact m _ e) (.bool _) e
 cases f <;> simp only [binX,ipop,iop,icmp] at e;case quo | rem | shl | shr=>
  split at e
  ·rename_i j;simp only [jaa] at e;obtain ⟨w,t,e⟩:=e;simp only [gquo,grem,gshl,gshr] at t;split at t <;> cases t;refine fin (λF hF=>?_) e;simp only [abinI];simp at j;first | exact ⟨j,by assumption,by rw [wk_eq] at hF; exact hF⟩ | exact ⟨j,by assumption,hF⟩ | exact ⟨by assumption,by rw [wk_eq] at hF; exact hF⟩ | exact ⟨by assumption,hF⟩
  ·exact kaa e
 all_goals
  split at e
  ·rename_i j;subst j;first
    | exact fin (λF hF=>⟨rfl,by rw [wk_eq] at hF; exact hF⟩) e
    | exact fin (λF hF=>⟨rfl,hF⟩) e
    | exact finB (λF hF=>⟨rfl,hF⟩) e
  ·exact kaa e
theorem kld (l:Ya UInt8):(⟨l.toArray⟩:ByteArray).toList=l:=by simp [ByteArray.toList_mk]
theorem krq (R:Rel P κ ln z c s env h n) {i:BinOp} {T t:Yc} {x y:Yf} {a b:Ya UInt8} (m:ev env x=str a) (l:ev env y=str b) (f:binX P c s i T (.c .s a) (.c .s b) Kf=some r) :
  Res P κ ln z c s env h n ⟨d,.binOp i T x y t,ty,pos,after,g⟩ Kf r:=by
 have finB:∀ {w:Bool},(∀ F:AV->Prop,F (.sc (.bool w))->abinS i ⟨a.toArray⟩ ⟨b.toArray⟩ F)->Kf (.c .b w) s=some r->Res P κ ln z c s env h n ⟨d,.binOp i T x y t,ty,pos,after,g⟩ Kf r:=λu f=>
  R.q (λK f=>by simp only [aop,m,l,abin,str]; exact u _ f) (.bool _) f
 cases i <;> simp only [binX,scmp] at f;case add=>
  simp only [jaa] at f;obtain ⟨w,j,f⟩:=f;unfold gcat at j;split at j <;> cases j;rename_i k;refine R.q (λK f=>?_) (.str _) f;simp only [aop,m,l,abin,str,abinS];refine ⟨by simpa [ByteArray.size] using k,?_⟩;have e:(⟨a.toArray⟩:ByteArray)++⟨b.toArray⟩=⟨(a++b).toArray⟩:=by
   apply ByteArray.ext; simp
  rw [e]; exact f
 all_goals first
  | (refine finB (λF hF=>?_) f; simp only [abinS,kld]; exact hF)
  | exact kaa f
theorem khC (R:Rel P κ ln z c s env h n) {id q:Nat} {B:TB sem} (hB:thp c s id=some B) (e:κ id=some q) (j:kbO B=true):isCells (h q)=true:=by
 cases R.blk _ _ hB with
 | bx _ _ f asZ a b=>rw [e] at a; cases a; rw [b]; rfl
 | el _ _ _ f cs i a b=>rw [e] at a; cases a; rw [b]; rfl
 | sl0 _ _ _ _ a=>rw [e] at a; cases a
 | sl _ _ _ f cs i a b=>rw [e] at a; cases a; rw [b]; rfl
 | mp=>simp [kbO] at j
 | si=>simp [kbO] at j
 | fm0 _ _ _ _ _ _ _ _ a=>rw [e] at a; cases a
 | fm _ _ _ _ _ _ _ f _ i a b=>rw [e] at a; cases a; rw [b]; rfl
theorem kqX (b:∀ q B,z q=some B->h q=some B) {a:AV} {cs:Ya AV} (m:Snap z a (.fp cs)):(∃ us,a = .fp us/\SnapL z us cs)\/∃ id i j,a = .own id i j/\isCells (h id)=true/\∃ k T es e,z id=some (.cells k T es)/\es[i]?=some e/\SnapL z (e.drop j) cs:=by
 rcases m.fp_inv with ⟨us,rfl,f⟩ | ⟨id,i,j,k,T,es,e,rfl,f,h2,l⟩
 ·exact .inl ⟨us,rfl,f⟩
 ·exact .inr ⟨id,i,j,rfl,by rw [b _ _ f]; rfl,k,T,es,e,f,h2,l⟩
theorem kia (R:Rel P κ ln z c s env h n) {T A:Yc} {x:Yf} {f o j:Nat} {t:Ty} {y:t.den} (u:t.dat=true) (v:fldO P T f=some (j,A)) (C:Snap z (ev env x) (.fp ((t.enc y).drop o))) (a:Kf (.fq t y (o+j)) s=some r) :
  Res P κ ln z c s env h n ⟨d,.fieldAddr T x f,ty,pos,after,g⟩ Kf r:=by
 rcases kqX R.zin C with ⟨us,m,l⟩ | ⟨id,i,q,m,E,k,D,es,e,l,h2,B⟩
 ·exact R.q (λK a=>by simp only [aop,v,m]; exact a) (.fq t y _ (.fp (us.drop j)) u (by rw [<-List.drop_drop]; exact Snap.fpL (l.drop j))) a
 ·refine R.q (λK a=>by simp only [aop,v,m]; exact ⟨E,a⟩) (.fq t y _ (.own id i (q+j)) u ?_) a;have b:=B.drop j;rw [List.drop_drop,List.drop_drop] at b;exact .own id i (q+j) k D es e _ l h2 b.len b.at
theorem kiU (R:Rel P κ ln z c s env h n) {T:Yc} {x:Yf} {f:Nat} {v:TV sem} (l:TVR P κ ln z s.n v (ev env x)) (b:kgA P c s T v f Kf=some r):Res P κ ln z c s env h n ⟨d,.fieldAddr T x f,ty,pos,after,g⟩ Kf r:=by
 unfold kgA at b;split at b
 ·exact kaa b
 ·rename_i j G u;split at b
  ·rename_i id o;split at b
   ·rename_i e;obtain ⟨B,hB,k⟩:=(jcp _ _).1 e;generalize D:ev env x=a at l;cases l with
    | ptr _ _ q hN m=>exact R.q (λK b=>by simp only [aop,u,D]; exact ⟨khC R hB m k,b⟩) (.ptr id _ q hN m) b
   ·exact kaa b
  ·rename_i id i o;split at b
   ·rename_i e;obtain ⟨B,hB,k⟩:=(jcp _ _).1 e;generalize D:ev env x=a at l;cases l with
    | adr _ _ _ q hN m E F=>exact R.q (λK b=>by simp only [aop,u,D]; exact ⟨khC R hB m k,b⟩) (.adr id i _ q hN m E F) b
   ·exact kaa b
  ·cases l with
   | fq _ _ _ _ A C=>exact kia R A u C b
  ·rename_i t y;cases l with
   | c _ _ _ A C=>exact kia (t:=t) (y:=y) (o:=0) R A u (by simpa [Ty.av,Ty.agg,Ty.enc] using C) (by rw [jbw]; exact b)
  ·exact kaa b
theorem knm (R:Rel P κ ln z c s env h n) {T:Yc} {x:Yf} {f:Nat} {v:TV sem} (m:TVR P κ ln z s.n v (ev env x)) (b:kmD P s T v f Kf=some r):Res P κ ln z c s env h n ⟨d,.field T x f,ty,pos,after,g⟩ Kf r:=by
 unfold kmD at b;split at b
 ·exact kaa b
 ·rename_i j S B;split at b
  ·exact kaa b
  ·rename_i ag i;simp only at b;split at b
   ·rename_i t y;split at b
    ·rename_i C;generalize l:ev env x=a at m;cases m with
     | c _ _ _ G F=>
      rw [kcT C] at F;obtain ⟨cs,rfl,u⟩:=F.ag_inv;unfold partX at b;split at b
      ·rename_i p M;obtain ⟨t',U⟩:=p;obtain ⟨I,H,Q,W,J⟩:=kdE t y j _ ag cs G M u;obtain ⟨a,k1,k2,k3⟩:=kgd (P:=P) (κ:=κ) (ln:=ln) (N:=s.n) I H Q J (by simp; omega);refine R.q (λK b=>?_) k1 b;simp only [aop,B,l,partK,i];cases ag with
       | true=>simp only; rw [<-k2 rfl]; exact b
       | false=>exact ⟨a,by simpa using k3 rfl,b⟩
      ·exact kaa b
    ·exact kaa b
   ·rename_i vs;generalize l:ev env x=a at m;cases m with
    | ag _ asZ k u=>
     have hl:=k.len;split at b
     ·rename_i e;split at b
      ·rename_i L;refine R.q (λK b=>?_) (.ag _ _ ((k.drop j).take _) (λa E=>u a (jcy (jcw E)))) b;subst e;simp only [aop,B,l,partK,i];exact b
      ·exact kaa b
     ·rename_i e;rw [jcl] at e; subst e;split at b
      ·rename_i v D;obtain ⟨a,E,A⟩:=k.at D;refine R.q (λK b=>?_) A b;simp only [aop,B,l,partK,i];exact ⟨a,E,b⟩
      ·exact kaa b
   ·exact kaa b
theorem kkV (R:Rel P κ ln z c s env h n) {T:Yc} {x i:Yf} {v w:TV sem} (G:TVR P κ ln z s.n v (ev env x)) (hw:TVR P κ ln z s.n w (ev env i)) (b:kjb P c s T v w Kf=some r):Res P κ ln z c s env h n ⟨d,.indexAddr T x i,ty,pos,after,g⟩ Kf r:=by
 unfold kjb at b;split at b
 ·exact kaa b
 ·rename_i j hj;have Y:=hw.i64_inv hj;split at b
  ·rename_i t l;split at b
   ·exact kaa b
   ·rename_i H;simp only [not_or,Decidable.not_not] at H;obtain ⟨ab,I,M⟩:=H;obtain ⟨e,J⟩:=Option.ne_none_iff_exists'.1 ab;rw [J] at I;have I:P.cellsOf e=t.wd:=by simpa using I
    simp only [jaa] at b;obtain ⟨y,F,b⟩:=b;obtain ⟨E,Z,A⟩:=kbw F;generalize L:ev env x=a at G;cases G with
    | c _ _ _ D hs=>
     replace D:t.dat=true:=D;replace hs:Snap z a (.sl (l.map t.enc)):=hs;have ae:=kae t y D;rcases hs.sl_inv with ⟨es,rfl,Q⟩ | ⟨_,Q⟩ | ⟨id,off,len,k,T',es,rfl,Q,h2,h3⟩
     ·obtain ⟨e',B,C⟩:=Q.at (keq Z);have ac:=C.len;refine R.q (λK b=>?_) (.fq t y 0 (.fp e') D (by rw [jcg]; exact Snap.fpL C)) b;simp only [aop,L,Y,kbr,J];exact ⟨E,e',B,by omega,by omega,b⟩
     ·simp only [jdf] at Q; subst Q; simp at A
     ·obtain ⟨e',B,C⟩:=h3.at (keq Z);have ac:=C.len;rw [jbm] at B;split at B
      ·rename_i ad;rw [jas] at B;have af:=R.zk _ _ _ _ Q e' (jai B);refine R.q (λK b=>?_) (.fq t y 0 (.own id (off+j.toNat) 0) D ?_) b
       ·simp only [aop,L,Y,kbr,J,R.zin _ _ Q];exact ⟨E,by omega,by omega,by omega,b⟩
       ·rw [jcg];exact .own id _ 0 k T' es e' _ Q B (by simpa using C.len) (by simpa using C.at)
      ·cases B
  ·rename_i id;split at b
   ·rename_i T' t l e hB J;split at b
    ·rename_i H;simp only [jaa] at b;obtain ⟨y,F,b⟩:=b;obtain ⟨E,Z,A⟩:=kbw F;generalize L:ev env x=a at G;cases R.blk _ _ hB with
     | sl0 _ _ _ D f hl hn=>subst hl; simp at A
     | sl _ _ _ X es D f S W U hn=>
      cases G with
      | mw0 _ _ u=>rw [f] at u; cases u
      | mw _ q hN u=>
       rw [f] at u; cases u;refine R.q (λK b=>?_) (.adr id j 0 X hN f E (by omega)) b;simp only [aop,L,Y,kbr,J,S];exact ⟨E,by omega,H.1,H.2,by rw [jbw]; exact b⟩
    ·exact kaa b
   ·exact kaa b
  ·rename_i id o len;split at b
   ·rename_i T' t l e hB J;split at b
    ·rename_i H;simp only [jaa] at b;obtain ⟨y,F,b⟩:=b;unfold gmi at F;split at F
     ·rename_i hr;cases F;generalize L:ev env x=a at G;cases R.blk _ _ hB with
      | sl0 _ _ _ D f hl hn=>
       cases G with
       | ms0 _ _ _ _ _ ho hl=>subst hl; omega
       | ms _ _ _ q _ u=>rw [f] at u; cases u
      | sl _ _ _ X es D f S W U hn=>
       cases G with
       | ms0 _ _ _ _ u=>rw [f] at u; cases u
       | ms _ _ _ q hN u E Q h2=>
        rw [f] at u; cases u;refine R.q (λK b=>?_) (.adr id (o+j) 0 X hN f (by omega) (by omega)) b;simp only [aop,L,Y,kbr,J,S];refine ⟨hr.1,by omega,H.1,H.2,?_⟩;rw [show o.toNat+j.toNat=(o+j).toNat by omega]; exact b
     ·cases F
    ·exact kaa b
   ·exact kaa b
  ·rename_i id o;split at b
   ·exact kaa b
   ·rename_i ho;obtain rfl:o=0:=by simpa using ho
    split at b
    ·rename_i T' m t y m' e hB J;split at b
     ·rename_i H;obtain ⟨rfl,I,M⟩:=H;simp only [jaa] at b;obtain ⟨w',F,b⟩:=b;obtain ⟨E,Z,A⟩:=kbw F;rw [y.h] at A;generalize L:ev env x=a at G;cases R.blk _ _ hB with
      | el _ _ _ X cs D f S W U hl=>
       cases G with
       | ptr _ _ q hN u=>
        rw [f] at u; cases u;refine R.q (λK b=>?_) (.aa id j X hN f E (by rw [hl _ _ rfl]; exact A)) b;simp only [aop,L,Y,kbr,J,S];exact ⟨E,by omega,by omega,by rw [M,jbw,Nat.mul_one]; exact b⟩
     ·exact kaa b
    ·exact kaa b
  ·rename_i id a o;split at b
   ·exact kaa b
   ·rename_i ho;obtain rfl:o=0:=by simpa using ho
    split at b
    ·rename_i T' m t l m' e hB J;split at b
     ·rename_i H;obtain ⟨rfl,I,M⟩:=H;simp only [jaa] at b;obtain ⟨y,ah,w',F,b⟩:=b;obtain ⟨E,Z,A⟩:=kbw F;rw [y.h] at A;generalize L:ev env x=a' at G;cases R.blk _ _ hB with
      | sl0 _ _ _ D f hl hn=>
       cases G with
       | adr _ _ _ q hN u=>rw [f] at u; cases u
      | sl _ _ _ X es D f S W U hn=>
       cases G with
       | adr _ _ _ q hN u g0 g1=>
        rw [f] at u; cases u;refine R.q (λK b=>?_) (.ax id a j X hN f g0 g1 E) b;simp only [aop,L,Y,kbr,J,S];exact ⟨E,by omega,by omega,by rw [M,jbw,Nat.mul_one]; exact b⟩
     ·exact kaa b
    ·exact kaa b
  ·exact kaa b
end
section
variable {P:Ye} {κ κ':Nat->Yb Nat} {ln ln':Nat->Nat} {z z':AH} {c:Cx sem} {s:TS sem} {env:Env} {h h':AH} {n n' N N':Nat}
variable {ρ:Ty} {Kf:TV sem->TS sem->sem.Ans ρ} {r:ρ.den}
variable {d:Yb Tmp} {ty:Yc} {pos:String} {after:Array Edge} {g:Yb (Nat×Bool)}
theorem klw {v:TV sem} {a:AV} (J:TVR P κ ln z N v a) {vs:Ya (TV sem)} (K:kar v=some vs) {asZ:Ya AV} (l:kav a=some asZ):∀ b∈asZ,b.one=true:=by
 intro b f;cases J with
 | c t x a u B=>
  obtain ⟨cs,D,E⟩:=keU u B;rw [l] at D; cases D;exact E.one_rev (kaF t x u) b f
 | ag I A _ G=>cases l; exact G b f
 | un | ud | tp | gs | yl | kp=>simp [kar] at K
 | sc w H=>cases l; simp at f; subst f; exact H
 | fq t x o a u B=>rcases B.fp_inv with ⟨cs,rfl,_⟩ | ⟨id,i,j,k,T,es,e,rfl,_⟩ <;> (cases l; simp at f; subst f; rfl)
 | cv m x y F a C=>obtain ⟨g,A,rfl,_⟩:=C; cases l; simp at f; subst f; rfl
 | _=>cases l; simp at f; subst f; rfl
theorem kmc {t:Ty} (j:t.dat=true) (m:t.wd=1) (w:t.den):∀ (l:Ya t.den) (k:Nat),k<l.length->((l.set k w).map t.enc).flatten=(l.map t.enc).flatten.take k++t.enc w++(l.map t.enc).flatten.drop (k+1):=by
 have e:∀ y:t.den,∃ a,t.enc y=[a]:=λy=>by
  have:=kae t y j;rw [m] at this;match hh:t.enc y,this with
  | [a],_=>exact ⟨a,rfl⟩
 intro l;induction l with
 | nil=>intro k f; simp at f
 | cons b l u=>
  intro k f;obtain ⟨a,i⟩:=e b;cases k with
  | zero=>simp [i]
  | succ k=>
   have:=u k (by simpa using f);rw [List.set_cons_succ,jat,List.flatten_cons,jat,List.flatten_cons,i,this];simp
theorem kch (R:Rel P κ ln z c s env h n) {v:TV sem} {a:AV} (e:TVR P κ ln z s.n v a) {t:Ty} {y:t.den} {ids:Ya Nat} (j:snapV (A:=sem) c s t v=some (y,ids)):∃ xs,kav a=some xs/\SnapL (hz (ows κ ln c s) h z ids) xs (t.enc y)/\t.dat=true:=by
 obtain ⟨b,f,_⟩:=kaR R e j;obtain ⟨cs,h2,i⟩:=keU b f;exact ⟨cs,h2,i,b⟩
theorem kbo {s:TS sem} {id:Nat} {B:TB sem} (h:ownB s id=some B):alk s.hp id=some (some B):=by
 unfold ownB at h;cases a:alk s.hp id with
 | none=>rw [a] at h; cases h
 | some b=>rw [a] at h; simp only at h; rw [h]
theorem kfH {es es':Ya (Ya AV)} (j:SnapE z es es') {i:Nat} {e e':Ya AV} (k:SnapL z e e'):SnapE z (es.set i e) (es'.set i e'):=by
 refine ⟨by simp [j.1],λq x l f a=>?_⟩;rw [List.getElem?_set] at f a;split at f
 ·rename_i b;rw [if_pos b] at a;split at f
  ·cases f;split at a
   ·cases a; exact k
   ·cases a
  ·cases f
 ·rename_i b;rw [if_neg b] at a;exact j.2 q x l f a
theorem kiZ {es:Ya (Ya AV)} {i:Nat} {e:Ya AV} (h:∀ e∈es,∀ a∈e,a.one=true) (j:∀ a∈e,a.one=true):∀ x∈es.set i e,∀ a∈x,a.one=true:=by
 intro x b a f;rcases List.mem_or_eq_of_mem_set b with b | rfl
 ·exact h x b a f
 ·exact j a f
theorem kmJ (R:Rel P κ ln z c s env h n) {T:Yc} {p x:Yf} {u v:TV sem} (hu:TVR P κ ln z s.n u (ev env p)) (hv:TVR P κ ln z s.n v (ev env x)) (f:knF P c s T u v Kf=some r):Res P κ ln z c s env h n ⟨d,.store T p x,ty,pos,after,g⟩ Kf r:=by
 unfold knF at f;simp only at f;split at f
 ·exact kaa f
 ·rename_i ag aC;split at f
  ·exact kaa f
  ·rename_i aB;have af:∀ (xs:Ya AV),kav (ev env x)=some xs->∀ t y,((snapV (A:=sem) c s t v).bind λy=>if y.2.isEmpty then some y.1 else none)=some y->t.dat=true/\SnapL z xs (t.enc y):=λxs E t y J=>by
    simp only [jaa] at J;obtain ⟨⟨w,ids⟩,hw,J⟩:=J;split at J
    ·rename_i ap;cases J;obtain rfl:=jcr.1 ap;obtain ⟨al,Z,h2,h3⟩:=kch R hv hw;rw [E] at Z; cases Z;rw [kaL] at h2;exact ⟨h3,h2⟩
    ·cases J
   have an:∀ t y,((snapV (A:=sem) c s t v).bind λy=>if y.2.isEmpty then some y.1 else none)=some y->∃ xs,kav (ev env x)=some xs:=λt y J=>by
    simp only [jaa] at J;obtain ⟨⟨w,ids⟩,hw,J⟩:=J;obtain ⟨al,Z,h2,h3⟩:=kch R hv hw;exact ⟨al,Z⟩
   split at f
   ·rename_i id j;split at f
    ·rename_i L vs hB;replace hB:=kbo hB;split at f
     ·rename_i xs E;split at f
      ·rename_i F;obtain ⟨am,Z,h2⟩:=hv.one_cells E;have ay:=klw hv E Z;have aw:=h2.len;generalize he:ev env p=a at hu;cases hu with
       | ptr _ _ q hN G=>
        cases R.blk _ _ (kab hB) with
        | bx _ _ q' asZ B hh C ho=>
         rw [G] at B; cases B;have hl:=C.len;have D:BR P κ ln z (updH h q (.cells vs.length L [putAt asZ j am])) s.n id (.bx L (vs.take j++xs++vs.drop (j+P.cellsOf T))):=by
          refine .bx _ _ q (asZ.take j++am++asZ.drop (j+P.cellsOf T)) G ?_ (((C.take j).append h2).append (C.drop _)) ?_
          ·simp only [updH,if_true];rw [kaW (by omega),aw,F.1];congr 2;simp; omega
          ·intro b S;rcases jba.1 S with S | S
           ·rcases jba.1 S with S | S
            ·exact ho b (jcw S)
            ·exact ay b S
           ·exact ho b (jcy S)
         exact ⟨.ud,_,.ud,_,_,κ,ln,z,λK f=>by
          simp only [aop,he,kbc,hh,Z];exact ⟨by omega,by omega,by omega,f⟩,f,R.set hB G D,.ud,jah _,λ_ _=>⟨rfl,λ_=>rfl⟩,λF=>by cases F⟩
      ·exact kaa f
     ·exact kaa f
    ·rename_i L t y hB;replace hB:=kbo hB;split at f
     ·rename_i y' ab;generalize he:ev env p=a at hu;cases hu with
      | ptr _ _ q hN G=>
       cases R.blk _ _ (kab hB) with
       | el _ _ _ q' cs I B hh C ho hl=>
        rw [G] at B; cases B;have ⟨xs,E⟩:∃ xs,kav (ev env x)=some xs:=by
         cases ah:kav (ev env x) with
         | some xs=>exact ⟨xs,rfl⟩
         | none=>
          exfalso;have:=kbz (z:=z) (xs:=[]) (val:=λt=>(snapV (A:=sem) c s t v).bind λy=>if y.2.isEmpty then some y.1 else none) (λt y J=>by obtain ⟨xs,h⟩:=an t y J; rw [ah] at h; cases h) t y j _ ag cs I ab C;simp at this;omega
        obtain ⟨g1,g2,g3⟩:=kbz (z:=z) (af xs E) t y j _ ag cs I ab C;have az:∀ b∈xs,b.one=true:=by
         intro b S;have:b∈cs.take j++xs++cs.drop (j+P.cellsOf T):=by simp [S]
         exact g3.one_rev (kaF t y' I) b this
        have D:BR P κ ln z (updH h q (.cells t.wd L [putAt cs j xs])) s.n id (.el L t y'):=by
         rw [kaW (by omega),g1];refine .el _ _ _ q _ I G (by simp [updH]) g3 (g3.one_rev (kaF t y' I)) hl
        exact ⟨.ud,_,.ud,_,_,κ,ln,z,λK f=>by
         simp only [aop,he,kbc,hh,E];exact ⟨by omega,by omega,by omega,f⟩,f,R.set hB G D,.ud,jah _,λ_ _=>⟨rfl,λ_=>rfl⟩,λF=>by cases F⟩
     ·exact kaa f
    ·exact kaa f
   ·rename_i id i j;split at f
    ·rename_i L t l hB;replace hB:=kbo hB;generalize he:ev env p=a at hu;cases hu with
     | adr _ _ _ q hN G h0 Z=>
      cases R.blk _ _ (kab hB) with
      | sl0 _ _ _ _ B=>rw [G] at B; cases B
      | sl _ _ _ q' es I B hh C ho hn=>
       rw [G] at B; cases B;have ak:=C.1;rw [jax,hn] at ak;obtain ⟨e,W⟩:∃ e,es[i.toNat]?=some e:=⟨es[i.toNat]'(by omega),jad _⟩;obtain ⟨y0,ae⟩:∃ y0,l[i.toNat]?=some y0:=⟨l[i.toNat]'(by omega),jad _⟩;have M:=C.2 _ _ _ W (keq ae);have ad:=M.len;rw [kae t y0 I] at ad;split at f
       ·rename_i F;obtain ⟨rfl,hm,rfl⟩:=F;split at f
        ·rename_i y ids J;split at f
         ·rename_i s' au;split at f
          ·exact kaa f
          ·rename_i Y;replace Y:id∉ids:=by simpa using Y
           obtain ⟨R',e1,e2,e3,e4,e5⟩:=R.retire au;have hB':=e3 id _ hB Y;obtain ⟨xs,E,H,_⟩:=kch R hv J;have Q:=H.len;rw [kae t y I] at Q;have D:BR P κ ln (hz (ows κ ln c s) h z ids) (updH h q (.cells t.wd L (es.set i.toNat (putAt e 0 xs)))) s'.n id (.sl L t (lset l i y)):=by
            rw [kaW (by omega),jdd,jay,jbw,jbr (by omega),jbf];refine .sl _ _ _ q (es.set i.toNat xs) I G (by simp [updH]) ?_ (kiZ ho (H.one_rev (kaF t y I))) (by simp [lset]; exact hn);rw [lset,List.map_set];exact kfH (C.mono (hz_z R.zin)) H
           exact ⟨.ud,_,.ud,_,_,κ,ln,_,λK f=>by
            simp only [aop,he,kbc,hh,E,W];exact ⟨by omega,by omega,by omega,f⟩,f,R'.set hB' G D,.ud,by simp [e2],λ_ _=>⟨rfl,λ_=>rfl⟩,λF=>by cases F⟩
         ·exact kaa f
        ·exact kaa f
       ·simp only [jaa] at f;obtain ⟨y1,hg,f⟩:=f;obtain ⟨_,ai,_⟩:=kbw hg;rw [ae] at ai; cases ai;split at f
        ·rename_i y' ab;have ⟨xs,E⟩:∃ xs,kav (ev env x)=some xs:=by
          cases ah:kav (ev env x) with
          | some xs=>exact ⟨xs,rfl⟩
          | none=>
           exfalso;have:=kbz (z:=z) (xs:=[]) (val:=λt=>(snapV (A:=sem) c s t v).bind λy=>if y.2.isEmpty then some y.1 else none) (λt y J=>by obtain ⟨xs,h⟩:=an t y J; rw [ah] at h; cases h) t y0 j _ ag e I ab M;simp at this;omega
         obtain ⟨g1,g2,g3⟩:=kbz (z:=z) (af xs E) t y0 j _ ag e I ab M;have D:BR P κ ln z (updH h q (.cells t.wd L (es.set i.toNat (putAt e j xs)))) s.n id (.sl L t (lset l i y')):=by
          rw [kaW (by omega),g1];refine .sl _ _ _ q (es.set i.toNat (e.take j++xs++e.drop (j+P.cellsOf T))) I G (by simp [updH]) ?_ (kiZ ho (g3.one_rev (kaF t y' I))) (by simp [lset]; exact hn);rw [lset,List.map_set];exact kfH C g3
         exact ⟨.ud,_,.ud,_,_,κ,ln,z,λK f=>by
          simp only [aop,he,kbc,hh,E,W];exact ⟨by omega,by omega,by omega,f⟩,f,R.set hB G D,.ud,jah _,λ_ _=>⟨rfl,λ_=>rfl⟩,λF=>by cases F⟩
        ·exact kaa f
    ·exact kaa f
   ·rename_i id i;split at f
    ·rename_i L m t y hB;replace hB:=kbo hB;split at f
     ·exact kaa f
     ·rename_i F;simp only [not_or,Decidable.not_not] at F;split at f
      ·rename_i w hw;generalize he:ev env p=a at hu;cases hu with
       | aa _ _ q hN G h0 Z=>
        cases R.blk _ _ (kab hB) with
        | el _ _ _ q' cs I B hh C ho hl=>
         rw [G] at B; cases B;obtain ⟨xs,E,H,X⟩:=kch R hv hw;rw [kaL] at H;have Q:=H.len;rw [kae t w X,F.1] at Q;have ac:i.toNat<m:=by rw [<-hl _ _ rfl]; exact Z
         have ao:=C.len;rw [kae (.ar m t) y I] at ao;simp only [Ty.wd,F.1,Nat.mul_one] at ao;have aj:=kmc X F.1 w;have U:SnapL z (cs.take i.toNat++xs++cs.drop (i.toNat+1)) ((Ty.ar m t).enc (aset y i w)):=by
          show SnapL z _ (((y.l.set i.toNat w).map t.enc).flatten);rw [aj y.l i.toNat (by rw [y.h]; exact ac)];exact ((C.take _).append H).append (C.drop _)
         have D:BR P κ ln z (updH h q (.cells (Ty.ar m t).wd L [putAt cs i.toNat xs])) s.n id (.el L (.ar m t) (aset y i w)):=by
          rw [kaW (by omega),<-Q];exact .el _ _ _ q _ I G (by simp [updH]) U (U.one_rev (kaF (.ar m t) _ I)) hl
         exact ⟨.ud,_,.ud,_,_,κ,ln,z,λK f=>by
          simp only [aop,he,kbc,hh,E];exact ⟨by omega,by omega,by omega,f⟩,f,R.set hB G D,.ud,jah _,λ_ _=>⟨rfl,λ_=>rfl⟩,λF=>by cases F⟩
      ·exact kaa f
    ·exact kaa f
   ·rename_i id i k;split at f
    ·rename_i L m t l hB;replace hB:=kbo hB;split at f
     ·exact kaa f
     ·rename_i F;simp only [not_or,Decidable.not_not] at F;split at f
      ·rename_i w hw;simp only [jaa] at f;obtain ⟨y,aq,w0,hg,f⟩:=f;obtain ⟨_,ae,_⟩:=kbw aq;obtain ⟨_,_,ac⟩:=kbw hg;generalize he:ev env p=a at hu;cases hu with
       | ax _ _ _ q hN G h0 Z aA=>
        cases R.blk _ _ (kab hB) with
        | sl0 _ _ _ _ B=>rw [G] at B; cases B
        | sl _ _ _ q' es I B hh C ho hn=>
         rw [G] at B; cases B;obtain ⟨e,W,M⟩:=C.at (keq ae);obtain ⟨xs,E,H,X⟩:=kch R hv hw;rw [kaL] at H;have Q:=H.len;rw [kae t w X,F.1] at Q;have ad:=M.len;rw [kae (.ar m t) y I] at ad;simp only [Ty.wd,F.1,Nat.mul_one] at ad;rw [y.h] at ac;have U:SnapL z (e.take k.toNat++xs++e.drop (k.toNat+1)) ((Ty.ar m t).enc (aset y k w)):=by
          show SnapL z _ (((y.l.set k.toNat w).map t.enc).flatten);rw [kmc X F.1 w y.l k.toNat (by rw [y.h]; exact ac)];exact ((M.take _).append H).append (M.drop _)
         have D:BR P κ ln z (updH h q (.cells (Ty.ar m t).wd L (es.set i.toNat (putAt e k.toNat xs)))) s.n id (.sl L (.ar m t) (lset l i (aset y k w))):=by
          rw [kaW (by omega),show k.toNat+xs.length=k.toNat+1 by omega];refine .sl _ _ _ q (es.set i.toNat (e.take k.toNat++xs++e.drop (k.toNat+1))) I G (by simp [updH]) ?_ (kiZ ho (U.one_rev (kaF (.ar m t) _ I))) (by simp [lset]; exact hn);rw [lset,List.map_set];exact kfH C U
         exact ⟨.ud,_,.ud,_,_,κ,ln,z,λK f=>by
          simp only [aop,he,kbc,hh,E,W];exact ⟨by omega,by omega,by omega,f⟩,f,R.set hB G D,.ud,jah _,λ_ _=>⟨rfl,λ_=>rfl⟩,λF=>by cases F⟩
      ·exact kaa f
    ·exact kaa f
   ·exact kaa f
theorem kqq (R:Rel P κ ln z c s env h n) {i:UnOp} {T:Yc} {x:Yf} {v:TV sem} (f:TVR P κ ln z s.n v (ev env x)) (b:unX s i v Kf=some r):Res P κ ln z c s env h n ⟨d,.unOp i T x,ty,pos,after,g⟩ Kf r:=by
 unfold unX at b;generalize e:ev env x=a at f;split at b
 ·cases f;exact R.q (λK b=>by simp only [aop,e,unK]; exact b) (.kb _) b
 ·rw [f.b_inv] at e;exact R.q (λK b=>by simp only [aop,e,unK]; exact b) (.bool _) b
 ·rw [f.i_inv] at e;exact R.q (λK b=>by simp only [aop,e,unK]; rw [<-wk_eq]; exact b) (.int _ _) b
 ·exact kaa b
theorem kod (R:Rel P κ ln z c s env h n) {S T:Yc} {x:Yf} {v:TV sem} (D:TVR P κ ln z s.n v (ev env x)) (b:convX P s S T v Kf=some r):Res P κ ln z c s env h n ⟨d,.convert S T x,ty,pos,after,g⟩ Kf r:=by
 unfold convX at b;generalize C:ev env x=a at D;split at b
 ·rename_i k y M hT;split at b
  ·rename_i hS;rw [D.i_inv] at C;exact R.q (λK b=>by simp only [aop,C,convK,hT]; rw [<-wk_eq]; exact ⟨hS,b⟩) (.int _ _) b
  ·exact kaa b
 ·rename_i x hT;split at b
  ·rename_i E;simp only [jac,jbj] at E;obtain ⟨⟨B,u⟩,G⟩:=E;have hz:=R.dy B;subst hz;refine R.q (λK b=>?_) (.str _) b;obtain ⟨e,f,t⟩:=kpO G;have u:=kdp u;simp only [aop,C];cases D with
   | c _ _ _ L j=>
    replace j:Snap (λ_=>none) a (.sl (x.map (Ty.i .u8).enc)):=j;rcases j.sl_inv with ⟨es,rfl,l⟩ | ⟨rfl,l⟩ | ⟨id,off,len,k,U,es,rfl,l,h2,Q⟩
    ·refine ⟨⟨e,f,t⟩,u,x,?_,b⟩;refine jdq λq=>?_;cases A:es[q]? with
     | none=>
      have:es.length<=q:=List.getElem?_eq_none_iff.1 A;rw [jaw,jco (by have:=l.1; simp at this; omega)]; rfl
     | some y=>
      have F:=(jae.1 A).1;have hl:=l.1;simp only [jax] at hl;have m:x[q]?=some (x[q]'(by omega)):=jad _;have H:=l.2 q y _ A (by rw [jaw,m]; rfl);rw [jaw,m];cases H with
      | cons I J=>cases J; rw [I.sc_inv]; rfl
    ·obtain rfl:x=[]:=by simpa using l
     have hS':P.underlying S=some (.slice e):=by
      unfold elemO at f; split at f
      ·cases f; assumption
      ·cases f
     exact ⟨_,λw=>by rw [run_convert_bytes_string w S T e none 0 0 hS' t u]; rfl,rfl,b⟩
    ·cases l
  ·exact kaa b
 ·exact kaa b
theorem klD (R:Rel P κ ln z c s env h n) {mx:Bool} {T:Array Yc} {x y:Yf} {u v:TV sem} (t:TVR P κ ln z s.n u (ev env x)) (A:TVR P κ ln z s.n v (ev env y)) (f:mmX mx s u v Kf=some r) :
  Res P κ ln z c s env h n ⟨d,.call ⟨.builtin (if mx then .max else .min),#[x,y],T⟩,ty,pos,after,g⟩ Kf r:=by
 unfold mmX at f;generalize m:ev env x=a at t;generalize l:ev env y=b at A;split at f
 ·rename_i k i B j;split at f
  ·rename_i e;subst e;rw [t.i_inv] at m;rw [A.i_inv] at l;cases mx
   ·exact R.q (λK f=>by simp only [aop,kag,jal,if_false,if_true]; rw [m,l]; exact ⟨rfl,f⟩) (.int _ _) f
   ·exact R.q (λK f=>by simp only [aop,kag,jal,if_false,if_true]; rw [m,l]; exact ⟨rfl,f⟩) (.int _ _) f
  ·exact kaa f
 ·exact kaa f
theorem kjX (R:Rel P κ ln z c s env h n) {mx:Bool} {T:Array Yc} {x y q:Yf} {u v w:TV sem} (D:TVR P κ ln z s.n u (ev env x)) (E:TVR P κ ln z s.n v (ev env y)) (C:TVR P κ ln z s.n w (ev env q)) (f:(mmX mx s u v λu s'=>mmX mx s' u w Kf)=some r) :
  Res P κ ln z c s env h n ⟨d,.call ⟨.builtin (if mx then .max else .min),#[x,y,q],T⟩,ty,pos,after,g⟩ Kf r:=by
 unfold mmX at f;generalize B:ev env x=a at D;generalize A:ev env y=b at E;generalize m:ev env q=e at C;split at f
 ·rename_i k i F j;split at f
  ·rename_i e;subst e;cases w <;> first | exact kaa f | skip
   rename_i t l;cases t <;> first | exact kaa f | skip
   rename_i k2;simp only at f;split at f
   ·rename_i e;subst e;rw [D.i_inv] at B;rw [E.i_inv] at A;rw [C.i_inv] at m;cases mx
    ·exact R.q (λK f=>by simp only [aop,kag,jal,if_false,if_true]; rw [B,A,m]; exact ⟨⟨rfl,rfl⟩,f⟩) (.int _ _) f
    ·exact R.q (λK f=>by simp only [aop,kag,jal,if_false,if_true]; rw [B,A,m]; exact ⟨⟨rfl,rfl⟩,f⟩) (.int _ _) f
   ·exact kaa f
  ·exact kaa f
 ·exact kaa f
theorem kiz (R:Rel P κ ln z c s env h n) {T e:Yc} {B:Nat} {x i:Yf} {vs:Ya (TV sem)} {asZ:Ya AV} (D:ev env x = .ag asZ) (u:TVRs P κ ln z s.n vs asZ) (l:∀ a∈asZ,a.one=true) {j:Int} (C:ev env i = .sc (.int .i64 j)) (E:arrO P T=some (B,e)) {ag:Bool} (t:aggO P e=some ag) (m:P.cellsOf e≠0) (hl:vs.length=B*P.cellsOf e) :
  ∀ (f k:Nat),k+f=B->idxAg (A:=sem) s (P.cellsOf e) ag vs j Kf f k=some r->Res P κ ln z c s env h n ⟨d,.index T x i,ty,pos,after,g⟩ Kf r
 | 0,k,b,h=>by cases h
 | f+1,k,hkm,hh=>by
  simp only [idxAg] at hh;rcases kbt hh with ⟨F,b⟩ | ⟨F,b⟩
  ·have y:j=(k:Int):=of_decide_eq_true F;subst y;cases ag with
   | true=>
    refine R.q (λK hK=>?_) (.ag _ _ ((u.drop _).take _) λa I=>l a (jcy (jcw I))) b;simp only [aop,D,C,idxK,E,partK,t];exact ⟨by omega,by omega,m,by rw [jdv]; exact hK⟩
   | false=>
    simp only at b;split at b
    ·rename_i v H;obtain ⟨a,G,h2⟩:=u.at H;refine R.q (λK hK=>?_) h2 b;simp only [aop,D,C,idxK,E,partK,t];exact ⟨by omega,by omega,m,a,by rw [jdv]; exact G,hK⟩
    ·exact kaa b
  ·exact kiz R D u l C E t m hl f (k+1) (by omega) b
theorem kpu (R:Rel P κ ln z c s env h n) {T:Yc} {x i:Yf} {v w:TV sem} (J:TVR P κ ln z s.n v (ev env x)) (U:TVR P κ ln z s.n w (ev env i)) (u:idxX P s T v w Kf=some r):Res P κ ln z c s env h n ⟨d,.index T x i,ty,pos,after,g⟩ Kf r:=by
 unfold idxX at u;split at u
 ·rename_i l;split at u
  ·exact kaa u
  ·rename_i k j E;have M:ev env i = .sc (.int k j):=by
    unfold getI at E;split at E
    ·cases E;generalize ev env i=b at U;cases U with | c _ _ _ C L=>exact L.sc_inv
    ·cases E
   generalize I:ev env x=a at J;split at u
   ·rename_i hT;replace hT:=kdp hT;simp only [jaa] at u;obtain ⟨y,D,u⟩:=u;simp only [gstr,jab] at D;obtain ⟨b,D,rfl⟩:=D;rw [J.s_inv] at I;exact R.q (λK u=>ksl (l:=l) hT I M D u) (.int _ _) u
   ·exact kaa u
 split at u
 ·exact kaa u
 ·rename_i j E;have M:=U.i64_inv E;generalize I:ev env x=a at J;split at u
  ·rename_i m t y Z;split at u
   ·rename_i m' e W;split at u
    ·rename_i Q;obtain ⟨rfl,F,aa,B⟩:=Q;simp only [jaa] at u;obtain ⟨w',D,u⟩:=u;obtain ⟨Y,hy,S⟩:=kbw D;rw [y.h] at S;cases J with
     | c _ _ _ C L=>
      rw [kcT rfl] at L;obtain ⟨cs,rfl,h1⟩:=L.ag_inv;replace C:t.dat=true:=C;have h2:=kjO (k:=t.wd) (f:=t.enc) (λy=>kae t y C) y.l j.toNat w' hy;have G:=(h1.drop (j.toNat*t.wd)).take t.wd;replace G:SnapL z ((cs.drop (j.toNat*t.wd)).take t.wd) (((y.l.map t.enc).flatten.drop (j.toNat*t.wd)).take t.wd):=G;rw [h2] at G;have h4:=G.len;rw [kae t w' C,jbh] at h4;obtain ⟨a,k1,k2,k3⟩:=kgd (P:=P) (κ:=κ) (ln:=ln) (N:=s.n) C rfl rfl G (by omega);refine R.q (λK u=>?_) k1 u;simp only [aop,I,M,idxK,W,partK,B];refine ⟨Y,by omega,by omega,?_⟩;cases A:t.agg with
      | true=>simp only; rw [<-F,<-k2 A]; exact u
      | false=>simp only; exact ⟨a,by rw [<-F]; simpa using k3 A,u⟩
    ·exact kaa u
   ·exact kaa u
  ·rename_i vs;split at u
   ·rename_i m e W;split at u
    ·rename_i ag B;split at u
     ·rename_i Q;cases J with
      | ag _ asZ X H=>exact kiz R I X H M W B Q.1 Q.2 m 0 (by omega) u
     ·exact kaa u
    ·exact kaa u
   ·exact kaa u
  ·exact kaa u
theorem kpH (R:Rel P κ ln z c s env h n) {T:Yc} {x:Yf} {v:TV sem} (j:TVR P κ ln z s.n v (ev env x)) (b:lenX P c s T v Kf=some r):Res P κ ln z c s env h n ⟨d,.call ⟨.builtin .len,#[x],#[T]⟩,ty,pos,after,g⟩ Kf r:=by
 unfold lenX at b;generalize y:ev env x=a at j;split at b
 ·rename_i t l;split at b
  ·rename_i i;refine R.q (λK b=>?_) (.int _ _) b;simp only [aop,kag,y];replace b:K (.sc (.int .i64 (l.length:Int))) h n:=b;cases j with
   | c _ _ _ B E=>
    replace E:Snap z a (.sl (l.map t.enc)):=E;rcases E.sl_inv with ⟨es,rfl,m⟩ | ⟨rfl,m⟩ | ⟨id,off,len,k,H,es,rfl,m,h2,L⟩
    ·have hl:=m.1;rw [jax] at hl;simp only [lenK];exact ⟨i,λ_=>by rw [<-hl]; exact b⟩
    ·simp only [jdf] at m; subst m;simp only [lenK];exact ⟨i,b⟩
    ·have hl:=L.1;rw [jax,jbh,jdo] at hl;have C:l.length=len:=by omega
     simp only [lenK,R.zin _ _ m];exact ⟨i,rfl,λ_=>by rw [<-C]; exact b⟩
  ·exact kaa b
 ·rename_i id;split at b
  ·rename_i H t l hB;split at b
   ·rename_i i;refine R.q (λK b=>?_) (.int _ _) b;simp only [aop,kag,y];replace b:K (.sc (.int .i64 (l.length:Int))) h n:=b;cases R.blk _ _ hB with
    | sl0 _ _ _ B e hl hn=>
     subst hl;cases j with
     | mw0=>simp only [lenK]; exact ⟨i,b⟩
     | mw _ q _ f=>rw [e] at f; cases f
    | sl _ _ _ I es B e A F D hn=>
     cases j with
     | mw0 _ _ f=>rw [e] at f; cases f
     | mw _ q _ f=>
      rw [e] at f; cases f;simp only [lenK,A];exact ⟨i,rfl,λ_=>by rw [<-hn]; exact b⟩
   ·exact kaa b
  ·exact kaa b
 ·rename_i id o len;split at b
  ·rename_i H t l hB;split at b
   ·rename_i i;refine R.q (λK b=>?_) (.int _ _) b;simp only [aop,kag,y];cases R.blk _ _ hB with
    | sl0 _ _ _ B e hl hn=>
     subst hl;cases j with
     | ms0 _ _ _ _ _ W hl=>subst hl; simp only [lenK]; exact ⟨i,b⟩
     | ms _ _ _ q _ f=>rw [e] at f; cases f
    | sl _ _ _ I es B e A F D hn=>
     cases j with
     | ms0 _ _ _ _ f=>rw [e] at f; cases f
     | ms _ _ _ q _ f Q m h2=>
      rw [e] at f; cases f;simp only [lenK,A];refine ⟨i,rfl,λ_=>?_⟩;rw [show ((len.toNat:Nat):Int)=len from Int.toNat_of_nonneg m]; exact b
   ·exact kaa b
  ·exact kaa b
 ·rename_i u;split at b
  ·rename_i G;obtain ⟨G,i⟩:=G;cases j;rw [kaE G] at y;refine R.q (λK b=>?_) (.int _ _) b;simp only [aop,kag,y,lenK];exact ⟨i,b⟩
  ·exact kaa b
 ·rename_i l;split at b
  ·rename_i hT;replace hT:=kdp hT;rw [j.s_inv] at y;exact R.q (λK b=>kri (l:=l) hT y b) (.int _ _) b
  ·exact kaa b
 ·rename_i id;split at b
  ·rename_i k M l hB;split at b
   ·rename_i hT;obtain ⟨k1,S,hT⟩:=kpV hT;cases R.blk _ _ hB with
    | mp _ _ _ q J U f A=>
     cases j with
     | mp _ I _ e=>
      rw [f] at e; cases e;refine R.q (λK b=>?_) (.int _ _) b;simp only [aop,kag,y,lenK,A,hT,jax];exact b
   ·exact kaa b
  ·exact kaa b
 ·exact kaa b
theorem kqp {b:Yb Yf} {l:Int} (a:∀ x,TVR P κ ln z s.n (tev c s x) (ev env x)) (h:loD (b.map (tev c s))=some l):loA (b.map (ev env))=some l:=by
 cases b with
 | none=>cases h; rfl
 | some x=>simp only [jcb] at h ⊢; rw [(a x).i64_inv h]; rfl
theorem kfK {b:Yb Yf} {l:Int} {m:Nat} (a:∀ x,TVR P κ ln z s.n (tev c s x) (ev env x)) (h:hiD (A:=sem) (b.map (tev c s)) (m:Int)=some l):hiA m (b.map (ev env))=some l:=by
 cases b with
 | none=>cases h; rfl
 | some x=>simp only [jcb] at h ⊢; rw [(a x).i64_inv h]; rfl
end
section
variable {P:Ye} {κ κ':Nat->Yb Nat} {ln ln':Nat->Nat} {z z':AH} {c:Cx sem} {s:TS sem} {env:Env} {h h':AH} {n n' N N':Nat}
variable {ρ:Ty} {Kf:TV sem->TS sem->sem.Ans ρ} {r:ρ.den}
variable {d:Yb Tmp} {ty:Yc} {pos:String} {after:Array Edge} {g:Yb (Nat×Bool)}
theorem SnapE.heads {t:Ty} {l:Ya t.den} {es:Ya (Ya AV)} (j:t.dat=true) (b:SnapE z es (l.map t.enc)):∀ e∈es,e.length=t.wd:=by
 intro e m;obtain ⟨i,f⟩:=jcx m;have k:=(jae.1 f).1;have a:=b.1;rw [jax] at a;have:=(b.2 i e _ f (by rw [jaw,jad (by omega)]; rfl)).len;rw [kae t _ j] at this; exact this.symm
theorem SnapE.td {es es':Ya (Ya AV)} (h:SnapE z es es') (o m:Nat):SnapE z ((es.take m).drop o) ((es'.take m).drop o):=by
 refine ⟨by simp [h.1],λq e e' b a=>?_⟩;rw [jas,jbm] at b a;split at b
 ·rename_i f;rw [if_pos f] at a;exact h.2 _ e e' b a
 ·cases b
theorem kjq {l u:Int} {m:Nat} (e:0<=l) (b:l<=u) (f:u<=(m:Int)) (a:m=0):l=0/\u=0:=by omega
theorem knx (R:Rel P κ ln z c s env h n) {T:Yc} {x:Yf} {lo Z:Yb Yf} {v:TV sem} (X:TVR P κ ln z s.n v (ev env x)) (b:kmm P c s T v (lo.map (tev c s)) (Z.map (tev c s)) Kf=some r):Res P κ ln z c s env h n ⟨d,.slice T x lo Z none,ty,pos,after,g⟩ Kf r:=by
 unfold kmm at b;split at b
 ·exact kaa b
 ·rename_i l hl;have D:=kqp (λx=>R.ev x) hl;simp only at b;generalize L:ev env x=a at X;split at b
  ·rename_i t y;split at b
   ·rename_i u e U M;have C:=kfK (m:=y.length) (λx=>R.ev x) U;split at b
    ·rename_i Y;obtain ⟨hw,G,ae⟩:=Y;simp only [jaa] at b;obtain ⟨w,E,b⟩:=b;obtain ⟨H,J,Q,E⟩:=kku E;subst E;have ad:=R.dy ae;cases X with
     | c _ _ _ I hs=>
      replace hs:Snap z a (.sl (y.map t.enc)):=hs;replace I:t.dat=true:=I;have A:∃ i,P.info? e=some i:=jan.1 G;rcases hs.sl_inv with ⟨es,rfl,F⟩ | ⟨rfl,F⟩ | ⟨id,off,len,k,T',es,rfl,F,h2,h3⟩
      ·have ac:=F.1;rw [jax] at ac;refine R.q (λK b=>?_) (.c (.sl t) ((y.take u.toNat).drop l.toNat) (.sl ((es.take u.toNat).drop l.toNat)) I ?_) b
       ·simp only [aop,L,kcq,kbb,D];rw [<-ac,C];exact ⟨⟨e,M,A,λc Y=>by rw [<-hw]; exact F.heads I c (List.mem_of_mem_head? Y)⟩,H,J,Q,b⟩
       ·show Snap z _ (.sl (((y.take u.toNat).drop l.toNat).map t.enc));rw [List.map_drop,List.map_take];exact Snap.of_sl (F.td _ _)
      ·simp only [jdf] at F;subst F;obtain ⟨gl,gu⟩:=kjq H J Q rfl;subst gu; subst gl;refine R.q (λK b=>?_) (.c (.sl t) _ nilS I .nilS) b;simp only [aop,L,kcq,kbb,D];rw [show hiA 0 (Z.map (ev env))=some 0 from C];exact ⟨⟨e,M,A⟩,Int.le_refl _,Int.le_refl _,Int.le_refl _,b⟩
      ·rw [ad] at F; cases F
    ·exact kaa b
   ·exact kaa b
  ·rename_i id;split at b
   ·rename_i T' t y hB;split at b
    ·rename_i u e U M;have C:=kfK (m:=y.length) (λx=>R.ev x) U;split at b
     ·rename_i Y;obtain ⟨hw,W,G⟩:=Y;have A:∃ i,P.info? e=some i:=jan.1 G;simp only [jaa] at b;obtain ⟨w,E,b⟩:=b;obtain ⟨H,J,Q,_⟩:=kku E;cases R.blk _ _ hB with
      | sl0 _ _ _ I j S hn=>
       subst S;obtain ⟨gl,gu⟩:=kjq H J Q rfl;subst gu; subst gl;cases X with
       | mw0 _ hN _=>
        refine R.q (λK b=>?_) (.ms0 id 0 (0-0) hN j rfl (by simp)) b;simp only [aop,L,kcq,kbb,D];rw [show hiA 0 (Z.map (ev env))=some 0 from C];exact ⟨⟨e,M,A⟩,Int.le_refl _,Int.le_refl _,Int.le_refl _,b⟩
       | mw _ q _ B=>rw [j] at B; cases B
      | sl _ _ _ q' es I j hh af ah hn=>
       cases X with
       | mw0 _ _ B=>rw [j] at B; cases B
       | mw _ q hN B=>
        rw [j] at B; cases B;refine R.q (λK b=>?_) (.ms id l (u-l) q' hN j H (by omega) (by rw [<-hn]; omega)) b;simp only [aop,L,kcq,kbb,D,hh];rw [<-hn,C];refine ⟨⟨e,M,hw,W⟩,H,J,Q,?_⟩;rw [jbw,show u.toNat-l.toNat=(u-l).toNat by omega]; exact b
     ·exact kaa b
    ·exact kaa b
   ·exact kaa b
  ·rename_i id o len;split at b
   ·rename_i T' t y hB;split at b
    ·rename_i u e U M;have aa:∀ m:Nat,(m:Int)=len->hiA m (Z.map (ev env))=some u:=λm hm=>by
      subst hm;exact kfK (m:=m) (λx=>R.ev x) U
     split at b
     ·rename_i Y;obtain ⟨hw,W,G⟩:=Y;have A:∃ i,P.info? e=some i:=jan.1 G;simp only [jaa] at b;obtain ⟨w,E,b⟩:=b;unfold gmb at E;split at E
      ·rename_i f;cases R.blk _ _ hB with
       | sl0 _ _ _ I j S hn=>
        subst S;cases X with
        | ms0 _ _ _ hN _ ho hl=>
         subst ho; subst hl;obtain ⟨gl,gu⟩:=kjq (m:=0) f.1 f.2.1 f.2.2 rfl;subst gu; subst gl;refine R.q (λK b=>?_) (.ms0 id (0+0) (0-0) hN j (by simp) (by simp)) b;simp only [aop,L,kcq,kbb,D];rw [show hiA 0 (Z.map (ev env))=some 0 from aa 0 rfl];exact ⟨⟨e,M,A⟩,Int.le_refl _,Int.le_refl _,Int.le_refl _,b⟩
        | ms _ _ _ q _ B=>rw [j] at B; cases B
       | sl _ _ _ q' es I j hh af ah hn=>
        cases X with
        | ms0 _ _ _ _ B=>rw [j] at B; cases B
        | ms _ _ _ q hN B h0 F h2=>
         rw [j] at B; cases B;have ab:((len.toNat:Nat):Int)=len:=Int.toNat_of_nonneg F;have H:=f.1;have J:=f.2.1;have Q:=f.2.2;refine R.q (λK b=>?_) (.ms id (o+l) (u-l) q' hN j (by omega) (by omega) (by omega)) b;simp only [aop,L,kcq,kbb,D,hh];rw [aa len.toNat ab];refine ⟨⟨e,M,hw,W⟩,H,J,by omega,?_⟩;rw [show o.toNat+l.toNat=(o+l).toNat by omega,show u.toNat-l.toNat=(u-l).toNat by omega]; exact b
      ·cases E
     ·exact kaa b
    ·exact kaa b
   ·exact kaa b
  ·rename_i y;split at b
   ·rename_i u U;have C:=kfK (m:=y.length) (λx=>R.ev x) U;split at b
    ·rename_i hT;replace hT:=kdp hT;simp only [jaa] at b;obtain ⟨w,E,b⟩:=b;obtain ⟨H,J,Q,E⟩:=kku E;subst E;rw [X.s_inv] at L;refine R.q (λK b=>?_) (.str _) b;simp only [aop,L,str,kcq,kbb,D];rw [show (⟨y.toArray⟩:ByteArray).size=y.length by simp [ByteArray.size],C];refine ⟨hT,H,J,Q,?_⟩;have e:(⟨y.toArray⟩:ByteArray).extract l.toNat u.toNat=⟨((y.take u.toNat).drop l.toNat).toArray⟩:=by
      apply ByteArray.ext;simp [List.drop_take]
     rw [e]; exact b
    ·exact kaa b
   ·exact kaa b
  ·exact kaa b
theorem khS (R:Rel P κ ln z c s env h n) {t:Ty} {v:TV sem} {a:AV} (H:TVR P κ ln z s.n v a) {l:Ya t.den} {ids:Ya Nat} (f:srcX (A:=sem) c s t v=some (l,ids)) :
  t.dat=true/\∃ xs,srcA h t.wd a=some xs/\SnapE z xs (l.map t.enc):=by
 have all:∀ {es:Ya (Ya AV)} {l:Ya t.den},t.dat=true->SnapE z es (l.map t.enc)->srcA h t.wd (.sl es)=some es:=λu h2=>by
  simp only [srcA];rw [if_pos];rw [jam];exact λe C=>by simpa using h2.heads u e C
 have W:∀ {id q:Nat} {T:Yc} {es:Ya (Ya AV)} {t':Ty} {l':Ya t'.den},thp c s id=some (.sl T t' l')->κ id=some q->∃ es,h q=some (.cells t'.wd T es)/\SnapE z es (l'.map t'.enc)/\es.length=ln id:=λhB j=>by
  cases R.blk _ _ hB with
  | sl0 _ _ _ u m hl hn=>rw [j] at m; cases m
  | sl _ _ _ q' es u m hh I F hn=>
   rw [j] at m; cases m;have hl:=I.1;rw [jax,hn] at hl;exact ⟨es,hh,I,hl.symm⟩
 have X:∀ {id:Nat} {T:Yc} {t':Ty} {l':Ya t'.den},thp c s id=some (.sl T t' l')->κ id=none->l'=[]:=λhB j=>by
  cases R.blk _ _ hB with
  | sl0 _ _ _ u m hl hn=>exact hl
  | sl _ _ _ q' es u m=>rw [j] at m; cases m
 unfold srcX at f;split at f
 ·rename_i x;simp only [jab,Prod.mk.injEq] at f;obtain ⟨y,D,rfl,-⟩:=f;have e:t = .i .u8:=by
   unfold tcast at D;split at D
   ·rename_i e; cases e; rfl
   ·cases D
  subst e;have U:strI x=y:=by simpa [tcast,sem] using D
  subst U;cases H with
  | c _ _ _ u K=>
   obtain rfl:=K.sc_inv;refine ⟨rfl,x.map kcH,by simp [srcA,Ty.wd],?_⟩;have:(strI x).map (Ty.i .u8).enc=x.map kcH:=by simp [strI,kcH,Ty.enc]
   rw [this];refine SnapE.free λe C=>?_;obtain ⟨b,_,rfl⟩:=jaz.1 C;simp only [kcH,kbU,khj,and_true];exact .sc _
 ·split at f
  ·cases f
  ·rename_i Q;obtain ⟨u,F,_⟩:=kaR R H f;have J:=R.dy (by simpa using Q);replace u:t.dat=true:=u;refine ⟨u,?_⟩;have G:ids=[]:=by
    unfold snapV at f;simp only [Ty.dat,u,Bool.true_eq_false,if_false,Ty.agg,jal,snapL] at f;split at f
    ·rename_i x ids' B;cases f;simp only [jab] at B;obtain ⟨y,_,C⟩:=B;cases C; rfl
    ·cases f
   subst G;rw [kaL] at F;replace F:Snap z a (.sl (l.map t.enc)):=F;rcases F.sl_inv with ⟨es,rfl,h2⟩ | ⟨rfl,h2⟩ | ⟨id,off,len,k,Y,es,rfl,h2,h3,h4⟩
   ·exact ⟨es,all u h2,h2⟩
   ·simp only [jdf] at h2; subst h2;exact ⟨[],rfl,rfl,λq e e' j=>by simp at j⟩
   ·rw [J] at h2; cases h2
 ·cases f
 ·cases f
 ·unfold snapV at f;split at f
  ·cases f
  ·rename_i u;replace u:t.dat=true:=by simpa [Ty.dat] using u
   refine ⟨u,?_⟩;simp only [Ty.agg,jal,if_false] at f;split at f
   ·rename_i y ids' B;cases f;cases v <;> simp only [snapL,jab,Option.some.injEq,reduceCtorEq] at B
    ·rename_i L _ _; exact (L _ _ rfl).elim
    ·split at B
     ·rename_i hn;cases B;cases H;rw [kaE hn];exact ⟨[],rfl,rfl,λq e e' j=>by simp at j⟩
     ·cases B
    ·split at B
     ·rename_i Y t' l' hB;simp only [jab] at B;obtain ⟨y,D,C⟩:=B;cases C;obtain ⟨e,rfl⟩:=kah D;cases e;cases H with
      | mw0 _ hN j=>
       obtain rfl:=X hB j;exact ⟨[],rfl,rfl,λq e e' j=>by simp at j⟩
      | mw _ q hN j=>
       obtain ⟨es,S,M,g3⟩:=W (es:=[]) hB j;refine ⟨es,?_,M⟩;simp only [srcA,S];rw [if_pos ⟨trivial,by omega⟩,jcg,jbl (by omega)]
     ·cases B
    ·split at B
     ·rename_i Y t' l' hB;simp only [jab] at B;obtain ⟨y,D,C⟩:=B;cases C;obtain ⟨e,rfl⟩:=kah D;cases e;cases H with
      | ms0 _ _ _ hN j Z hl=>
       obtain rfl:=X hB j;subst Z; subst hl;exact ⟨[],rfl,rfl,λq e e' j=>by simp at j⟩
      | ms _ _ _ q hN j h0 F h2=>
       obtain ⟨es,S,M,g3⟩:=W (es:=[]) hB j;refine ⟨_,(by simp only [srcA,S]; exact if_pos ⟨trivial,by omega⟩),?_⟩;show SnapE z _ (((l'.drop _).take _).map t.enc);rw [List.map_take,List.map_drop];exact M.drop_take _ _
     ·cases B
    ·rename_i E _; exact (E _ rfl).elim
    ·rename_i E; exact (E _ _ rfl).elim
   ·cases f
theorem SnapE.append {a a' b b':Ya (Ya AV)} (h:SnapE z a a') (g:SnapE z b b'):SnapE z (a++b) (a'++b'):=by
 refine ⟨by simp [h.1,g.1],λq e e' j f=>?_⟩;rw [jbn] at j f;rw [h.1] at f;split at j
 ·rename_i i; rw [if_pos i] at f; exact h.2 _ e e' j f
 ·rename_i i; rw [if_neg i] at f; exact g.2 _ e e' j f
theorem SnapE.ones {t:Ty} {l:Ya t.den} {es:Ya (Ya AV)} (k:t.dat=true) (f:SnapE z es (l.map t.enc)):∀ e∈es,∀ a∈e,a.one=true:=by
 intro e u a v;obtain ⟨i,j⟩:=jcx u;have m:=(jae.1 j).1;have b:=f.1;rw [jax] at b;exact (f.2 i e _ j (by rw [jaw,jad (by omega)]; rfl)).one_rev (kaF t _ k) a v
theorem Rel.delA (R:Rel P κ ln z c s env h n) {id q:Nat} {e:TB sem} (i:alk s.hp id=some (some e)) (f:κ id=some q):Rel P κ ln z c { s with hp:=(id,none)::s.hp } env (delH h q) n:=by
 refine R.del i (λj B a=>?_) (λj B b h2=>?_)
 ·unfold delH at a;split at a
  ·cases a
  ·exact a
 ·unfold delH;rw [if_neg]
  ·exact h2
  ·rintro rfl; exact b f
theorem kpE (R:Rel P κ ln z c s env h n) {T T2:Yc} {x y:Yf} {u v:TV sem} (hu:TVR P κ ln z s.n u (ev env x)) (hv:TVR P κ ln z s.n v (ev env y)) (f:appX P c s T T2 u v Kf=some r) :
  Res P κ ln z c s env h n ⟨d,.call ⟨.builtin .append,#[x,y],#[T,T2]⟩,ty,pos,after,g⟩ Kf r:=by
 unfold appX at f;split at f
 ·exact kaa f
 ·rename_i e he;split at f
  ·rename_i t zs ht hz;split at f
   ·rename_i X;obtain ⟨hp,F,ai,U⟩:=X;have m:zs≠[]:=by rintro rfl; simp at F; omega
    split at f
    ·exact kaa f
    ·rename_i l ids aa;obtain ⟨J,xs,D,k⟩:=khS R hv aa;rw [<-F] at D;simp only at f;generalize I:ev env x=a at hu;have Z:ev env x=nilS->(sem.p2 (x:=.sl t) (y:=.sl t) (z:=.sl t) "" (λa b=>gapp a b) ([]:Ya t.den) l λl'=>newSl s e t l' Kf)=some r->Res P κ ln z c s env h n ⟨d,.call ⟨.builtin .append,#[x,y],#[T,T2]⟩,ty,pos,after,g⟩ Kf r:=λI f=>by
      simp only [jaa] at f;obtain ⟨l',C,f⟩:=f;obtain ⟨H,C⟩:=kdW C;rw [jay] at C;rw [C] at f;have i:=k.1;rw [jax] at i;have j:xs.length<=1048576:=by simp at H; omega
      by_cases E:xs=[]
      ·subst E;have:l=[]:=by simpa using i
       subst this;refine kfn rfl R J (λK f=>?_) f;simp only [aop,kag,I,kba,he,hz,D];exact ⟨hp,m,U,j,λ_=>f,λh=>absurd rfl h⟩
      ·refine keg rfl R J k (k.ones J) (λK f=>?_) f;simp only [aop,kag,I,kba,he,hz,D];refine ⟨hp,m,U,j,λh=>absurd h E,λ_=>?_⟩;rw [F,<-i]; exact f
     split at f
     ·rename_i id;split at f
      ·rename_i e' t' M hB;split at f
       ·rename_i ad;obtain ⟨rfl,ah⟩:=ad;split at f
        ·rename_i l1 ab;obtain ⟨et,rfl⟩:=kah ab;cases et;cases R.blk _ _ (kab hB) with
         | sl0 _ _ _ ac G hl hn=>
          subst hl;cases hu with
          | mw0=>
           simp only [jaa] at f;obtain ⟨l',C,f⟩:=f;have S:=R.del (h':=h) hB (λ_ _ h=>h) (λ_ _ _ h=>h);obtain ⟨H,C⟩:=kdW C;rw [jay] at C;rw [C] at f;have i:=k.1;rw [jax] at i;have j:xs.length<=1048576:=by simp at H; omega
           have up:∀ {Q:Res P κ ln z c { s with hp:=(id,none)::s.hp } env h n ⟨d,.call ⟨.builtin .append,#[x,y],#[T,T2]⟩,ty,pos,after,g⟩ Kf r},Res P κ ln z c s env h n ⟨d,.call ⟨.builtin .append,#[x,y],#[T,T2]⟩,ty,pos,after,g⟩ Kf r:=λ{Q}=>by
            obtain ⟨tv,s',v,h',n',κ2,ae,z2,g1,g2,g3,g4,g6,g7,_⟩:=Q;exact ⟨tv,s',v,h',n',κ2,ae,z2,g1,g2,g3,g4,g6,g7,λX=>by cases X⟩
           by_cases E:xs=[]
           ·subst E;have:l=[]:=by simpa using i
            subst this;refine up (Q:=kfn rfl S J (λK f=>?_) f);simp only [aop,kag,I,kba,he,hz,D];exact ⟨hp,m,U,j,λ_=>f,λh=>absurd rfl h⟩
           ·refine up (Q:=keg rfl S J k (k.ones J) (λK f=>?_) f);simp only [aop,kag,I,kba,he,hz,D];refine ⟨hp,m,U,j,λh=>absurd h E,λ_=>?_⟩;rw [F,<-i]; exact f
          | mw _ q _ A=>rw [G] at A; cases A
         | sl _ _ _ q' es ac G hh W aj hn=>
          cases hu with
          | mw0 _ _ A=>rw [G] at A; cases A
          | mw _ q hN A=>
           rw [G] at A; cases A;simp only [jaa] at f;obtain ⟨l',C,f⟩:=f;obtain ⟨H,C⟩:=kdW C;subst C;have i:=k.1;rw [jax] at i;have L:=W.1;rw [jax] at L;have S:=R.delA hB G;have af:delH h q' q'=none:=by simp [delH]
           have Y:SnapE z (es++xs) ((M++l).map t.enc):=by rw [jdb]; exact W.append k
           have R2:=S.new (h':=updH (delH h q') n (.cells t.wd e' (es++xs))) (n':=n+1) (.sl e' t (M++l)) (some n) (M++l).length (λq B A=>by
             unfold updH; rw [if_neg]; ·exact A
             rintro rfl; rw [S.hn _ (jah _)] at A; cases A) (jbk _) (λq A=>by cases A; omega) (λq A=>by unfold updH; rw [if_neg (by omega)]; exact S.hn q (by omega))
            (.sl e' t (M++l) n (es++xs) J updK_self (by simp [updH]) Y (Y.ones J) updK_self.symm)
           refine ⟨.mw s.n,_,.ms n 0 (ln id+xs.length),_,_,_,_,_,λK f=>?_,f,R2,?_,jbk _,λid hi=>⟨kao hi,λ_=>kao hi⟩,λX=>by cases X⟩
           ·simp only [aop,kag,I,kba,he,hz,D,hh];refine ⟨hp,m,U,F.symm,trivial,by omega,by omega,?_⟩;exact f
           ·have:=TVR.mw (P:=P) (κ:=updK κ s.n (some n)) (ln:=updK ln s.n (M++l).length) (z:=z) (N:=s.n+1) s.n n (jbe _) updK_self;rw [updK_self] at this;have e0:(M++l).length=ln id+xs.length:=by rw [jap,hn]; omega
            rw [e0] at this;exact e0 ▸ this
        ·exact kaa f
       ·exact kaa f
      ·exact kaa f
     ·rename_i w;split at f
      ·rename_i hn;cases hu;rw [kaE hn] at I;exact Z I f
      ·exact kaa f
     ·exact kaa f
   ·exact kaa f
  ·exact kaa f
theorem SnapE.take {es es':Ya (Ya AV)} (h:SnapE z es es') (m:Nat):SnapE z (es.take m) (es'.take m):=by
 have:=h.td 0 m
 rwa [jcg,jcg] at this
theorem SnapE.drop {es es':Ya (Ya AV)} (h:SnapE z es es') (o:Nat):SnapE z (es.drop o) (es'.drop o):=by
 refine ⟨by simp [h.1],λq e e' b a=>?_⟩;rw [jas] at b a;exact h.2 _ e e' b a
theorem Rel.reset (R:Rel P κ ln z c s env h n) {id:Nat} {B:TB sem} (l:alk s.hp id=some (some B)):Rel P κ ln z c { s with hp:=(id,some B)::s.hp } env h n:=by
 have k:∀ x,thp c { s with hp:=(id,some B)::s.hp } x=thp c s x:=λx=>by
  unfold thp;simp only [alk];by_cases e:x=id
  ·subst e; rw [if_pos rfl,l]
  ·rw [if_neg e]
 exact ⟨R.env,λi f a=>R.blk i f (k i ▸ a),λi f a=>R.lt i f (k i ▸ a),λi j t y q a v=>R.inj i j t y q (k i ▸ a) (k j ▸ v),R.zin,λi f q a=>R.zout i f q (k i ▸ a),λi f q a=>R.bnd i f q (k i ▸ a),R.hn,R.e0,λi b a=>by
  simp only [alk] at a;split at a
  ·rename_i e; subst e; exact R.g _ _ l
  ·exact R.g _ _ a,R.dy,R.zk,R.fam.map (λi f a=>.inl ⟨f,k i ▸ a,λh=>h,rfl,rfl⟩) (λid _ B r _ m h2 u=>((R.fam id B m h2).2 r u).2.1) (jah _)⟩
theorem kqu {t:Ty} {l xs:Ya t.den} {es ys:Ya (Ya AV)} (h:SnapE z es (l.map t.enc)) (g:SnapE z ys (xs.map t.enc)) (o m:Nat):SnapE z (es.take o++ys.take m++es.drop (o+m)) ((l.take o++xs.take m++l.drop (o+m)).map t.enc):=by
 rw [jdb,jdb,List.map_take,List.map_take,List.map_drop];exact ((h.take o).append (g.take m)).append (h.drop (o+m))
theorem koC (R:Rel P κ ln z c s env h n) {T T2:Yc} {x y:Yf} {u v:TV sem} (I:TVR P κ ln z s.n u (ev env x)) (hv:TVR P κ ln z s.n v (ev env y)) (f:copyX P c s T u v Kf=some r) :
  Res P κ ln z c s env h n ⟨d,.call ⟨.builtin .copy,#[x,y],#[T,T2]⟩,ty,pos,after,g⟩ Kf r:=by
 unfold copyX at f;split at f
 ·exact kaa f
 ·rename_i e S;split at f
  ·rename_i t zs ht hz;split at f
   ·rename_i G;obtain ⟨E,ad⟩:=G;have A:zs≠[]:=by rintro rfl; simp at E; omega
    split at f
    ·exact kaa f
    ·rename_i xs ids Q;obtain ⟨hd,ys,B,M⟩:=khS R hv Q;have ac:=B;rw [<-E] at B;have L:=M.1;rw [jax] at L;simp only at f;generalize C:ev env x=a at I;have D:∀ {id q:Nat} {e':Yc} {l:Ya t.den} {es:Ya (Ya AV)} {o len:Int} (hB:alk s.hp id=some (some (.sl e' t l))) (k:κ id=some q) (H:h q=some (.cells t.wd e' es)) (m:SnapE z es (l.map t.enc)) (hn:l.length=ln id) (U:0<=o) (W:0<=len) (h2:o+len<=ln id) (C:ev env x = .ms q o.toNat len.toNat),
       Kf (.c (.i .i64) ((λ(a b:Int)=>if b<a then b else a) (lenI xs) len)) { s with hp:=(id,some (.sl e' t (lcopy l o len xs)))::s.hp }=some r->
       Res P κ ln z c s env h n ⟨d,.call ⟨.builtin .copy,#[x,y],#[T,T2]⟩,ty,pos,after,g⟩ Kf r:=by
      intro id q e' l es o len hB k H m hn U W h2 C f;have ab:=m.1;rw [jax] at ab;have hm:((min ys.length len.toNat:Nat):Int)=(if len<lenI xs then len else lenI xs):=by
       show _=if len<(xs.length:Int) then len else (xs.length:Int);split <;> omega
      have J:SnapE z (es.take o.toNat++ys.take (min ys.length len.toNat)++es.drop (o.toNat+min ys.length len.toNat)) ((lcopy l o len xs).map t.enc):=by
       unfold lcopy;rw [<-L];exact kqu m M _ _
      have Y:(lcopy l o len xs).length=l.length:=by
       unfold lcopy;simp only [jap,jbh,jdo];omega
      refine ⟨_,_,.sc (.int .i64 (if len<lenI xs then len else lenI xs)),updH h q (.cells t.wd e' (es.take o.toNat++ys.take (min ys.length len.toNat)++es.drop (o.toNat+min ys.length len.toNat))),n,κ,ln,z,λK f=>?_,f,R.set hB k (.sl e' t (lcopy l o len xs) q _ hd k (by simp [updH]) J (J.ones hd) (by rw [Y,hn])),.int _ _,jah _,λ_ _=>⟨rfl,λ_=>rfl⟩,λG=>by cases G⟩;simp only [aop,kag,C,copyK,S,hz,B,H];refine ⟨A,E.symm,by omega,?_⟩;rw [hm]; exact f
     split at f
     ·rename_i id;split at f
      ·rename_i e' t' Z hB;split at f
       ·rename_i l hl;obtain ⟨X,rfl⟩:=kah hl;cases X;cases R.blk _ _ (kab hB) with
        | sl0 _ _ _ F j hl hn=>
         subst hl;cases I with
         | mw0=>
          have e0:lcopy ([]:Ya t.den) 0 (lenI ([]:Ya t.den)) xs=[]:=by simp [lcopy,lenI]
          refine ⟨_,_,.sc (.int .i64 0),h,n,κ,ln,z,λK f=>?_,f,?_,?_,jah _,λ_ _=>⟨rfl,λ_=>rfl⟩,λG=>by cases G⟩
          ·simp only [aop,kag,C,copyK,S,hz,B];exact ⟨A,f⟩
          ·show Rel P κ ln z c { s with hp:=(id,some (.sl e' t (lcopy ([]:Ya t.den) 0 (lenI ([]:Ya t.den)) xs)))::s.hp } env h n;rw [e0]; exact R.reset hB
          ·have:(if lenI ([]:Ya t.den)<lenI xs then lenI ([]:Ya t.den) else lenI xs)=0:=by
            show (if (0:Int)<(xs.length:Int) then (0:Int) else (xs.length:Int))=0;split <;> omega
           show TVR P κ ln z _ (.c (.i .i64) (if lenI ([]:Ya t.den)<lenI xs then lenI ([]:Ya t.den) else lenI xs)) _;rw [this]; exact .int _ _
         | mw _ q _ k=>rw [j] at k; cases k
        | sl _ _ _ q' es F j H m aa hn=>
         cases I with
         | mw0 _ _ k=>rw [j] at k; cases k
         | mw _ q hN k=>
          rw [j] at k; cases k;refine D (o:=0) (len:=lenI Z) hB j H m hn (Int.le_refl _) (Int.natCast_nonneg _) (by show (0:Int)+(Z.length:Int)<=_; omega) ?_ f;rw [C,<-hn]; rfl
       ·exact kaa f
      ·exact kaa f
     ·rename_i id o len;split at f
      ·rename_i e' t' Z hB;split at f
       ·rename_i l hl;obtain ⟨X,rfl⟩:=kah hl;cases X;cases R.blk _ _ (kab hB) with
        | sl0 _ _ _ F j hl hn=>
         subst hl;cases I with
         | ms0 _ _ _ hN _ ho hl=>
          subst ho; subst hl;have e0:lcopy ([]:Ya t.den) 0 0 xs=[]:=by simp [lcopy]
          refine ⟨_,_,.sc (.int .i64 0),h,n,κ,ln,z,λK f=>?_,f,?_,?_,jah _,λ_ _=>⟨rfl,λ_=>rfl⟩,λG=>by cases G⟩
          ·simp only [aop,kag,C,copyK,S,hz,B];exact ⟨A,f⟩
          ·show Rel P κ ln z c { s with hp:=(id,some (.sl e' t (lcopy ([]:Ya t.den) 0 0 xs)))::s.hp } env h n;rw [e0]; exact R.reset hB
          ·have:(if (0:Int)<lenI xs then (0:Int) else lenI xs)=0:=by
            show (if (0:Int)<(xs.length:Int) then (0:Int) else (xs.length:Int))=0;split <;> omega
           show TVR P κ ln z _ (.c (.i .i64) (if (0:Int)<lenI xs then (0:Int) else lenI xs)) _;rw [this]; exact .int _ _
         | ms _ _ _ q _ k=>rw [j] at k; cases k
        | sl _ _ _ q' es F j H m aa hn=>
         cases I with
         | ms0 _ _ _ _ k=>rw [j] at k; cases k
         | ms _ _ _ q hN k U W h2=>
          rw [j] at k; cases k;exact D (o:=o) (len:=len) hB j H m hn U W h2 C f
       ·exact kaa f
      ·exact kaa f
     ·rename_i w;split at f
      ·rename_i hn;cases I;rw [kaE hn] at C;refine R.q (λK f=>?_) (.int _ _) f;simp only [aop,kag,C,copyK,S,hz,B];exact ⟨A,f⟩
      ·exact kaa f
     ·exact kaa f
   ·exact kaa f
  ·exact kaa f
end
section
variable {P:Ye} {κ κ':Nat->Yb Nat} {ln ln':Nat->Nat} {z z':AH} {c:Cx sem} {s:TS sem} {env:Env} {h h':AH} {n n' N N':Nat}
variable {ρ:Ty} {Kf:TV sem->TS sem->sem.Ans ρ} {r:ρ.den}
variable {d:Yb Tmp} {ty:Yc} {pos:String} {after:Array Edge} {g:Yb (Nat×Bool)}
theorem kfV {pl:Ya (Nat×Nat)} (f:∀ x,TVR P κ ln z N (tev c s x) (ev env x)):∀ (b:Ya (Nat×Yf)) (cs:Ya (TV sem)) (asZ:Ya AV) {vs:Ya (TV sem)},TVRs P κ ln z N cs asZ->(∀ a∈asZ,a.one=true)->fillT c pl s b cs=some vs->∃ bs,fillS pl env b asZ=some bs/\TVRs P κ ln z N vs bs/\∀ a∈bs,a.one=true
 | [],cs,asZ,vs,hc,h1,hf=>by cases hf; exact ⟨asZ,rfl,hc,h1⟩
 | (i,x)::rest,cs,asZ,vs,hc,h1,hf=>by
  simp only [fillT] at hf;split at hf
  ·rename_i o m xs hp l;split at hf
   ·rename_i hl;obtain ⟨t,k,j⟩:=(f x).one_cells l;have u:=klw (f x) l k;have v:=j.len;have y:=hc.len;obtain ⟨bs,k1,k2,k3⟩:=kfV f rest _ (asZ.take o++t++asZ.drop (o+m)) (((hc.take o).append j).append (hc.drop _)) (λa e=>by
     rcases jba.1 e with e | e
     ·rcases jba.1 e with e | e
      ·exact h1 a (jcw e)
      ·exact u a e
     ·exact h1 a (jcy e)) hf
    refine ⟨bs,?_,k2,k3⟩;simp only [fillS,hp,k];rw [if_pos ⟨by omega,by omega⟩]; exact k1
   ·cases hf
  ·cases hf
theorem koK {s s':TS sem} (a:s'.env=s.env) (x:Nat):tlk c s' x=tlk c s x:=by unfold tlk; rw [a]
theorem koE {s s':TS sem} (a:s'.env=s.env) (x:Yf):tev c s' x=tev c s x:=by cases x <;> simp [tev,koK a]
theorem kme (R:Rel P κ ln z c s env h n) {T:Yc} {b:Array (Nat×Yf)} (e:knz P c s T b.toList Kf=some r):Res P κ ln z c s env h n ⟨d,.build T b,ty,pos,after,g⟩ Kf r:=by
 unfold knz at e;split at e
 ·rename_i zs Ts pl hz hT hp;split at e
  ·rename_i hl;simp only at e;have f:=kdR hz;obtain ⟨κ',ln',k,m,h2,y,l,t,_⟩:=kcv zs Ts R f hl;split at e
   ·rename_i vs u;have i:∀ x,TVR P κ' ln' z (zeroC P s zs Ts).2.n (tev c s x) (ev env x):=λx=>by rw [<-koE (c:=c) y]; exact k.ev x
    obtain ⟨bs,k1,k2,k3⟩:=kfV i b.toList _ zs m (λa B=>by obtain ⟨v,rfl,A⟩:=f a B; exact A) u;exact ⟨.ag vs,_,.ag bs,h,n,κ',ln',z,λK e=>koO hz hp k1 e,e,k,.ag vs bs k2 k3,h2,λid j=>⟨l id j,λ_=>t id j⟩,λC=>by cases C⟩
   ·exact kaa e
  ·exact kaa e
 ·exact kaa e
theorem kfy (R:Rel P κ ln z c s env h n) {t:Ty} (C:t.dat=true):∀ (a:Ya (Nat×Yf)) (j:Nat) {ys:Ya t.den} {ids:Ya Nat} (len:Nat),len=j+a.length->khA (A:=sem) c s t a j=some (ys,ids)->(∀ id∈ids,∃ B,thp c s id=some B)/\
  ∃ xs:Ya (Ya AV),xs.length=a.length/\(∀ es:Ya (Ya AV),es.length=len->fillE t.wd env a es=some (es.take j++xs))/\SnapE (hz (ows κ ln c s) h z ids) xs (ys.map t.enc)
 | [],j,ys,ids,len,hl,hp=>by
  cases hp;refine ⟨λid b=>by simp at b,[],rfl,λes m=>?_,rfl,λq e e' l=>by simp at l⟩;simp only [jdm,Nat.add_zero] at hl;simp [fillE,<-hl,<-m]
 | (i,x)::rest,j,ys,ids,len,hl,hp=>by
  simp only [khA] at hp;split at hp
  ·rename_i u;subst u;simp only [jaa,jab] at hp;obtain ⟨⟨y,v⟩,K,⟨I,i2⟩,hr,m⟩:=hp;cases m;obtain ⟨H,J,G⟩:=kaR R (R.ev x) K;obtain ⟨D,M,E⟩:=keU H J;obtain ⟨k0,xs,k1,k2,k3⟩:=kfy R C rest (i+1) len (by simp at hl; omega) hr;refine ⟨λid b=>?_,D::xs,by simp [k1],λes m=>?_,?_⟩
   ·rcases jba.1 b with b | b
    ·exact G id b
    ·exact k0 id b
   ·have f:i<es.length:=by simp at hl; omega
    simp only [fillE,M];rw [if_pos ⟨by rw [<-E.len,kae t y C],f⟩,k2 (es.set i D) (by simpa using m)];congr 1;rw [List.take_set,jcz f,List.set_append,if_neg (by simp; omega)];simp [Nat.min_eq_left (Nat.le_of_lt f)]
   ·have L:=kbF (o:=ows κ ln c s) (h:=h) (z:=z) (ids:=v) (ids':=v++i2) R.zin (λid b=>by simp [b]);have F:=kbF (o:=ows κ ln c s) (h:=h) (z:=z) (ids:=i2) (ids':=v++i2) R.zin (λid b=>by simp [b]);have k3:=k3.mono F;refine ⟨by simp [k3.1],λq e e' l k=>?_⟩;cases q with
    | zero=>simp at l k; subst l; subst k; exact E.mono L
    | succ q=>exact k3.2 q e e' (by simpa using l) (by simpa using k)
  ·cases hp
theorem kiq (R:Rel P κ ln z c s env h n) {T:Yc} {len:Nat} {b:Array (Nat×Yf)} (f:kfZ P c s T len b.toList Kf=some r):Res P κ ln z c s env h n ⟨d,.buildSlice T len b,ty,pos,after,g⟩ Kf r:=by
 unfold kfZ at f;split at f
 ·exact kaa f
 ·rename_i e Q;split at f
  ·rename_i t zs F hz;split at f
   ·rename_i C;obtain ⟨D,m,u⟩:=C;have x:=kci F;split at f
    ·rename_i hl;split at f
     ·rename_i ys ids hp;split at f
      ·rename_i s' y;obtain ⟨k0,xs,k1,k2,k3⟩:=kfy R x b.toList 0 len (by omega) hp;obtain ⟨S,e1,Z,e3,e4,Y⟩:=R.retire y;have j:=k3.1;rw [jax] at j;have i:∀ l:Ya t.den,lstD (A:=sem) t l=l:=by
        intro l;induction l with
        | nil=>rfl
        | cons a l U=>simp only [lstD]; rw [U]
       rw [i] at f;have k:=keg (o:=⟨d,.buildSlice T len b,ty,pos,after,g⟩) rfl S x k3 (k3.ones x) (λK f=>?_) f
       ·obtain ⟨G,I,v,h2,W,J,B,z2,M,H,X,L,E⟩:=k;exact ⟨G,I,v,h2,W,J,B,z2,M,H,X,L,by have:=E.1; omega,λid hi=>E.2.1 id (by omega),λC=>by cases C⟩
       ·simp only [aop,Q,hz,u];rw [k2 (List.replicate len zs) (by simp)];simp only [jdd,jay];rw [u] at m;refine ⟨D,m,.inl ?_⟩;rw [show len=ys.length by omega]; exact f
      ·exact kaa f
     ·exact kaa f
    ·exact kaa f
   ·exact kaa f
  ·exact kaa f
theorem kji (R:Rel P κ ln z c s env h n) {T:Yc} {x y:Yf} (f:kgG P s T (tev c s x) (tev c s y) (kfh x y) Kf=some r):Res P κ ln z c s env h n ⟨d,.makeSlice T x y,ty,pos,after,g⟩ Kf r:=by
 unfold kgG at f;split at f
 ·exact kaa f
 ·rename_i e he;split at f
  ·rename_i t zs m U hz Z;split at f
   ·rename_i z0 H;split at f
    ·rename_i hc;obtain ⟨B,L,A,aa,W⟩:=hc;have F:=kci U;have Q:=R.ev x;rw [Z] at Q;have i:=Q.i_inv;have j:∃ E,ev env y = .sc (.int E m):=by
      unfold kfh at B;split at B
      ·rename_i a b;obtain rfl:a=b:=by simpa using B
       exact ⟨_,i⟩
      ·rename_i k a E b;have J:a=b:=by simpa using B
       subst J;have:(Value.int k a) = .int .i64 m:=by simpa [ev,cst] using i
       cases this;exact ⟨E,rfl⟩
      ·cases B
     obtain ⟨E,j⟩:=j;simp only [jaa] at f;obtain ⟨l,C,f⟩:=f;obtain ⟨Y,X,C⟩:=koT C;obtain ⟨rest,hr,I⟩:=(jcp _ _).1 L;obtain rfl:=jcr.1 I;obtain ⟨a,S,ha⟩:=kbW (z:=z) t z0 zs [] F H hr;rw [jbf] at S; subst S;have v:SnapE z (List.replicate m.toNat zs) (l.map t.enc):=by
      rw [C];refine ⟨by simp,λq e e' D u=>?_⟩;rw [jdc] at D;rw [List.map_replicate,jdc] at u;split at D
      ·rename_i G; rw [if_pos G] at u; cases D; cases u; exact ha
      ·cases D
     refine keg rfl R F v (v.ones F) (λK f=>?_) f;simp only [aop,he,hz,i,j];refine ⟨trivial,Y,X,W,by rintro rfl; simp at A; omega,?_⟩;have M:l.length=m.toNat:=by rw [C]; simp
     rw [M] at f;rw [A]; exact f
    ·exact kaa f
   ·exact kaa f
  ·exact kaa f
theorem newMp (R:Rel P κ ln z c s env h n) {k v:Ty} (b:isKey k=true) (e:v.flat=true):Rel P (updK κ s.n (some n)) (updK ln s.n 0) z c { s with hp:=(s.n,some (.mp k v []))::s.hp,n:=s.n+1 } env (updH h n (.map [])) (n+1):=
 R.new (.mp k v []) (some n) 0 (λq B a=>by
   unfold updH; rw [if_neg]; ·exact a
   rintro rfl; rw [R.hn _ (jah _)] at a; cases a) (jbk _) (λq a=>by cases a; omega) (λq a=>by unfold updH; rw [if_neg (by omega)]; exact R.hn q (by omega))
  (.mp k v [] n b e updK_self (by simp [updH]))
theorem kkz (R:Rel P κ ln z c s env h n) {T:Yc} (a:kiT P s T Kf=some r):Res P κ ln z c s env h n ⟨d,.makeMap T none,ty,pos,after,g⟩ Kf r:=by
 unfold kiT at a;split at a
 ·split at a
  ·split at a
   ·rename_i b;obtain ⟨f,h2⟩:=b;exact ⟨.mp s.n,_,.mp n,_,_,_,_,_,λK a=>by simp only [aop]; exact a,a,newMp R f h2,.mp s.n n (jbe _) updK_self,jbk _,λid e=>⟨kao e,λ_=>kao e⟩,λb=>by cases b⟩
   ·exact kaa a
  ·exact kaa a
 ·exact kaa a
theorem kbS:∀ (k:Ty) (x:k.den),∀ v∈valsK k x,Scal v
 | .i _,x,v,h | .s,x,v,h | .b,x,v,h=>by simp [valsK] at h; subst h; trivial
 | .w a,x,v,h=>kbS a x v h
 | .pr a b,x,v,h=>by
  rcases jba.1 (show v∈valsK a x.1++valsK b x.2 from h) with h | h
  ·exact kbS a _ v h
  ·exact kbS b _ v h
 | .ar n a,x,v,h=>by
  obtain ⟨l,hl,e⟩:=List.mem_flatten.1 (show v∈(x.l.map (valsK a)).flatten from h);obtain ⟨y,_,rfl⟩:=jaz.1 hl;exact kbS a y v e
 | .un,x,v,h | .nt,x,v,h | .sl _,x,v,h | .pt _,x,v,h | .op _,x,v,h | .sm _ _,x,v,h | .fn _ _ _,x,v,h=>by simp [valsK] at h
theorem kmu {α β:Type} {f:α->Ya β} {m:Nat} (a:∀ x,(f x).length=m):∀ l:Ya α,(l.map f).flatten.length=l.length*m
 | []=>by simp
 | x::l=>by simp [a,kmu a l,jds,Nat.add_comm]
theorem kbB:∀ (k:Ty) (x:k.den),isKey k=true->(valsK k x).length=k.wd
 | .i _,_,_ | .s,_,_ | .b,_,_=>rfl
 | .w a,x,h=>kbB a x h
 | .pr a b,x,h=>by
  simp only [isKey,jac] at h;show (valsK a x.1++valsK b x.2).length=a.wd+b.wd;rw [jap,kbB a _ h.1,kbB b _ h.2]
 | .ar n a,x,h=>by
  show ((x.l.map (valsK a)).flatten).length=n*a.wd;rw [kmu (λy=>kbB a y h),x.h]
theorem kmQ {α β:Type} {f:α->Ya β} {m:Nat} (a:∀ x,(f x).length=m) (b:∀ x y,f x=f y->x=y):∀ l r:Ya α,l.length=r.length->(l.map f).flatten=(r.map f).flatten->l=r
 | [],[],_,_=>rfl
 | [],_::_,h,_=>by simp at h
 | _::_,[],h,_=>by simp at h
 | x::l,y::r,h,e=>by
  simp only [jat,List.flatten_cons] at e;obtain ⟨i,j⟩:=List.append_inj e (by rw [a,a]);rw [b x y i,kmQ a b l r (by simpa using h) j]
theorem ker:∀ (k:Ty) (x y:k.den),isKey k=true->valsK k x=valsK k y->x=y
 | .i _,x,y,_,h=>by simpa [valsK] using h
 | .s,x,y,_,h=>by
  simp only [valsK,List.cons.injEq,and_true] at h;have:=(kqm x y);rw [show ks x=ks y from h] at this;exact of_decide_eq_true (this.symm.trans (by rw [kqm]; simp))
 | .b,x,y,_,h=>by simpa [valsK] using h
 | .w a,x,y,hk,h=>ker a x y hk h
 | .pr a b,x,y,hk,h=>by
  simp only [isKey,jac] at hk;obtain ⟨e,f⟩:=List.append_inj (show valsK a x.1++valsK b x.2=valsK a y.1++valsK b y.2 from h) (by rw [kbB a _ hk.1,kbB a _ hk.1]);exact Prod.ext (ker a _ _ hk.1 e) (ker b _ _ hk.2 f)
 | .ar n a,x,y,hk,h=>by
  have:=kmQ (λz=>kbB a z hk) (λu v=>ker a u v hk) x.l y.l (by rw [x.h,y.h]) h;cases x; cases y; simp only at this; subst this; rfl
theorem kdr:∀ (k:Ty) (x:k.den),isKey k=true->k.enc x=(valsK k x).map .sc
 | .i _,_,_ | .s,_,_ | .b,_,_=>rfl
 | .w a,x,h=>kdr a x h
 | .pr a b,x,h=>by
  simp only [isKey,jac] at h;show a.enc x.1++b.enc x.2=(valsK a x.1++valsK b x.2).map .sc;rw [jdb,kdr a _ h.1,kdr b _ h.2]
 | .ar n a,x,h=>by
  show (x.l.map a.enc).flatten=((x.l.map (valsK a)).flatten).map .sc;rw [List.map_flatten,List.map_map];congr 1;exact List.map_congr_left λy _=>kdr a y h
theorem kim {k:Ty} (b:isKey k=true) (a:k.agg=true) (x:k.den):keyV k x = .agg (valsK k x).toArray:=by
 cases k <;> first | rfl | (simp [Ty.agg] at a; done)
theorem kie {k:Ty} (b:isKey k=true) (a:k.agg=false) (x:k.den):valsK k x=[keyV k x]:=by
 cases k <;> first | rfl | (simp [Ty.agg] at a; done) | (simp [isKey] at b; done)
theorem koP {k:Ty} (f:isKey k=true) (a b:k.den):keyB (keyV k a) (keyV k b)=true↔a=b:=by
 have t:valsK k a=valsK k b↔a=b:=⟨ker k a b f,λe=>by rw [e]⟩;cases i:k.agg with
 | true=>
  rw [kim f i,kim f i];show keyBL (valsK k a) (valsK k b)=true↔_;rw [kiX (kbS k a) (kbS k b),t]
 | false=>
  have l:=kbS k a; have m:=kbS k b;rw [kie f i] at l m;have j:=l _ (List.mem_singleton_self _);have u:=m _ (List.mem_singleton_self _);rw [kqc (by cases v:keyV k a <;> rw [v] at j <;> first | rfl | exact j.elim),kjh j u,<-t,kie f i,kie f i];simp
theorem kiV {k:Ty} (f:isKey k=true) (a b:k.den) [Decidable (a=b)]:keyB (keyV k a) (keyV k b)=decide (a=b):=by
 have:=koP f a b;by_cases h:a=b
 ·subst h; rw [(koP f a a).2 rfl]; simp
 ·have h2:¬ keyB (keyV k a) (keyV k b)=true:=λe=>h (this.1 e);rw [jcl] at h2; rw [h2]; simp [h]
theorem kkE {t:Ty} (a:t.agg=false) (b:isKey t=true):t.wd=1:=by
 cases t <;> first | rfl | (simp [Ty.agg] at a; done) | (simp [isKey] at b; done)
theorem kiO {b:Yc->Ty->Bool} {recC:Yc->Ya Yd->Prop} (a:∀ T t,b T t=true->∀ x:t.den,isKey t=true->recC T (valsK t x)):∀ (j:Ya Field) (o:Nat) (t:Ty) (x:t.den),keyFs P b j o t=true->isKey t=true->OkFs P recC j o (valsK t x)
 | [],o,t,x,h,_=>by simp [keyFs] at h
 | [f],o,t,x,h,hk=>by
  simp only [keyFs,jac,jak,bne_iff_ne,ne_eq] at h;obtain ⟨⟨⟨⟨l,h2⟩,i⟩,k⟩,m⟩:=h;exact ⟨valsK t x,[],by simp,l,h2,by rw [kbB t x hk,i],⟨_,k,λe=>by rw [i]; exact kkE e hk⟩,a _ _ m x hk,rfl⟩
 | f::g::j,o,t,x,h,hk=>by
  cases t <;> simp only [keyFs,jac,jak,bne_iff_ne,ne_eq,jal] at h;rename_i u v;obtain ⟨⟨⟨⟨⟨l,h2⟩,i⟩,k⟩,m⟩,y⟩:=h;simp only [isKey,jac] at hk;refine ⟨valsK u x.1,valsK v x.2,rfl,l,h2,by rw [kbB u _ hk.1,i],⟨_,k,λe=>by rw [i]; exact kkE e hk.1⟩,a _ _ m _ hk.1,?_⟩;rw [i];exact kiO a (g::j) _ v x.2 y hk.2
theorem kgR:∀ (d:Nat) (T:Yc) (t:Ty),keyTF P d T t=true->∀ x:t.den,isKey t=true->OkC P d T (valsK t x)
 | 0,T,t,h,_,_=>by simp [keyTF] at h
 | d+1,T,t,h,x,a=>by
  unfold keyTF at h;unfold OkC;split at h
  ·rename_i hT; simp only [hT]; simp only [jak] at h; subst h; exact ⟨_,rfl⟩
  ·rename_i hT; simp only [hT]; simp only [jak] at h; subst h; exact ⟨_,rfl⟩
  ·rename_i hT; simp only [hT]; simp only [jak] at h; subst h; exact ⟨_,rfl⟩
  ·rename_i A hT;simp only [hT];simp only [jac,jbj] at h;refine ⟨h.1,?_⟩;have h2:=h.2;split at h2
   ·rename_i f u b;rw [b];exact kiO (λT t h x a=>kgR d T t h x a) [f] 0 u x h2 a
   ·cases h2
   ·exact kiO (λT t h x a=>kgR d T t h x a) _ 0 _ _ h2 a
  ·rename_i n e hT;simp only [hT];split at h
   ·rename_i m u;simp only [jac,jak] at h;obtain ⟨⟨⟨j,h2⟩,k⟩,i⟩:=h;refine ⟨⟨_,k,λe=>by rw [h2]; exact kkE e a⟩,x.l.map (valsK u),by rw [jax,x.h,j],rfl,λc v=>?_⟩;obtain ⟨y,_,rfl⟩:=jaz.1 v;exact ⟨by rw [kbB u y a,h2],kgR d e u i y a⟩
   ·cases h
  ·cases h
theorem kgn {kt:Yc} {k:Ty} (b:isKey k=true) (h:keyT P kt k=true) (a:k.den):kaN P kt (keyV k a):=by
 cases e:k.agg with
 | true=>
  have:aggO P kt=some true/\keyTF P 9 kt k=true:=by
   cases k <;> first | (simp [Ty.agg] at e; done) | (simp only [keyT,jac,jak] at h; exact ⟨h.1.2,h.2⟩)
  rw [kim b e];exact ⟨this.1,kgR 9 kt k this.2 a b⟩
 | false=>
  cases k <;> first | (simp [Ty.agg] at e; done) | (simp [isKey] at b; done) | skip
  ·simpa [keyV,kaN,keyT] using h
  ·simpa [keyV,kaN] using kko h
  ·simpa [keyV,kaN,ks] using kdp h
theorem kiQ {z:AH}:∀ {l:Ya AV} {vs:Ya Yd},SnapL z l (vs.map .sc)->l=vs.map .sc
 | [],[],_=>rfl
 | [],_::_,h=>by cases h
 | _::_,[],h=>by cases h
 | a::l,v::vs,h=>by
  cases h with
  | cons b h2=>rw [b.sc_inv,kiQ h2]; rfl
theorem kqM:∀ l:Ya Yd,scV (l.map .sc)=some l
 | []=>rfl
 | v::l=>by simp only [jat,scV,kqM l]; rfl
theorem kjn {k:Ty} (b:isKey k=true) {v:TV sem} {a:AV} (R:Rel P κ ln z c s env h n) (i:TVR P κ ln z s.n v a) {x:k.den} {ids:Ya Nat} (j:snapV (A:=sem) c s k v=some (x,ids)):keyA a=some (keyV k x):=by
 obtain ⟨_,f,_⟩:=kaR R i j;cases e:k.agg with
 | true=>
  have:k.av x = .ag (k.enc x):=by unfold Ty.av; rw [if_pos e]
  rw [this] at f;obtain ⟨cs,rfl,h2⟩:=f.ag_inv;rw [kdr k x b] at h2;rw [kiQ h2,kim b e];show (scV _).map _=_;rw [kqM]; rfl
 | false=>
  have:k.av x = .sc (keyV k x):=by
   unfold Ty.av; rw [if_neg (by simp [e]),kdr k x b,kie b e]; rfl
  rw [this] at f;rw [f.sc_inv]; rfl
theorem kbs:∀ {v:Ty},v.flat=true->v.dat=true
 | .i _,_ | .b,_ | .s,_ | .un,_=>rfl
 | .w t,h=>kbs (v:=t) h
 | .pr t u,h=>by simp only [Ty.flat,jac] at h; simp [Ty.dat,kbs h.1,kbs h.2]
theorem kgy:∀ (v:Ty) (x:v.den),v.flat=true->∃ vs:Ya Yd,v.enc x=vs.map .sc/\∀ w∈vs,w.oneCell'=true
 | .i k,x,_=>⟨[.int k x],rfl,by simp [Value.oneCell']⟩
 | .b,x,_=>⟨[.bool x],rfl,by simp [Value.oneCell']⟩
 | .s,x,_=>⟨[ks x],rfl,by simp [Value.oneCell']⟩
 | .un,x,_=>⟨[],rfl,by simp⟩
 | .w t,x,h=>kgy t x h
 | .pr t u,x,h=>by
  simp only [Ty.flat,jac] at h;obtain ⟨a,l,j⟩:=kgy t x.1 h.1;obtain ⟨b,m,f⟩:=kgy u x.2 h.2;refine ⟨a++b,by show t.enc x.1++u.enc x.2=_; rw [l,m,jdb],λw e=>?_⟩;rcases jba.1 e with e | e
  ·exact j w e
  ·exact f w e
theorem keQ {v:Ty} (b:v.flat=true) {x:v.den} {a:AV} {z:AH} (h:Snap z a (v.av x)):a=v.av x:=by
 obtain ⟨vs,e,_⟩:=kgy v x b;cases f:v.agg with
 | true=>
  have j:v.av x = .ag (v.enc x):=by unfold Ty.av; rw [if_pos f]
  rw [j] at h ⊢;obtain ⟨cs,rfl,h2⟩:=h.ag_inv;rw [e] at h2 ⊢;rw [kiQ h2]
 | false=>
  have:∃ w,v.av x = .sc w:=by
   cases v <;> simp [Ty.flat,Ty.agg] at b f <;> exact ⟨_,rfl⟩
  obtain ⟨w,i⟩:=this;rw [i] at h ⊢;exact h.sc_inv
theorem kkG {v:Ty} (a:v.flat=true) (x:v.den):(v.av x).vl=true:=by
 cases v <;> simp [Ty.flat] at a <;> rfl
theorem zv_ok {e:Yc} {v:Ty} (j:v.flat=true) {z0:v.den} (hz:zeroD (A:=sem) v=some z0) (b:(zvO P e).any (zvOk v)=true):∃ u,zvO P e=some u/\cst u=v.av z0:=by
 obtain ⟨u,t,b⟩:=(jcp _ _).1 b;refine ⟨u,t,?_⟩;unfold zvOk at b;split at b
 ·rename_i cs m;simp only [jac] at b;obtain ⟨rest,hr,i⟩:=(jcp _ _).1 b.2;obtain rfl:=jcr.1 i;obtain ⟨a,k,f⟩:=kbW (z:=λ_=>none) v z0 _ _ (kbs j) hz hr;rw [jbf] at k; subst k;rw [m];refine keQ j (z:=λ_=>none) ?_;have:v.av z0 = .ag (v.enc z0):=by unfold Ty.av; rw [if_pos b.1]
  rw [this]; exact .agL f
 ·rename_i w l;simp only [jac,jbj] at b;obtain ⟨rest,hr,i⟩:=(jcp _ _).1 b.2;obtain rfl:=jcr.1 i;obtain ⟨a,k,f⟩:=kbW (z:=λ_=>none) v z0 _ _ (kbs j) hz hr;rw [jbf] at k; subst k;rw [l];rw [kcV b.1 (kbs j)] at f;cases f with
  | cons k1 _=>exact keQ j k1
 ·cases b
theorem kkx {k:Ty} {β:Type} (a:isKey k=true) (l:Ya (k.den×β)) (x:k.den):mgetT k l x = @mget _ _ (kaY k a) l x:=by
 unfold mgetT; rw [dif_pos a]
theorem krO {k:Ty} {β:Type} (a:isKey k=true) (l:Ya (k.den×β)) (x:k.den) (v:β):mputT k l x v = @mput _ _ (kaY k a) l x v:=by
 unfold mputT; rw [dif_pos a]
theorem klT (R:Rel P κ ln z c s env h n) {T:Yc} {m key:Yf} {ok:Bool} {u v:TV sem} (G:TVR P κ ln z s.n u (ev env m)) (W:TVR P κ ln z s.n v (ev env key)) (f:kkU P c s T u v ok Kf=some r):Res P κ ln z c s env h n ⟨d,.lookup T m key ok,ty,pos,after,g⟩ Kf r:=by
 unfold kkU at f;split at f
 ·rename_i id;split at f
  ·rename_i k w l kt e hB hT;split at f
   ·rename_i x z0 S A;simp only at f;split at f
    ·rename_i X;obtain ⟨c1,L,E,Q⟩:=X;have I:=kbs E;obtain ⟨U,B,D⟩:=zv_ok E A Q;have j:=kjn c1 R W S;generalize H:ev env m=a at G;cases R.blk _ _ hB with
     | mp _ _ _ q _ _ J M=>
      cases G with
      | mp _ Y hN t=>
       rw [J] at t; cases t;have C:h q=some (.map (List.map (kvE (keyV k) w.av) l)):=M;have i:∀ y:w.den,TVR P κ ln z s.n (.c w y) (w.av y):=λy=>.free I;have key:=λ(F:AV->Prop) hF=>@lkK P h _ _ (kaY k c1) T kt e q (ev env key) l (keyV k) w.av x z0 U ok F j hT B D (λa b=>@kiV _ c1 a b (kaY k c1 a b)) (kgn c1 L) C hF;cases ok with
       | true=>
        simp only [if_true] at f;refine R.q (λK f=>?_) (.tp _ [w.av ((mgetT k l x).getD z0),.sc (.bool (mgetT k l x).isSome)] (.cons _ _ _ _ (i _) (.cons _ _ _ _ (.bool _) .nil))) f;simp only [aop,H];refine key _ ?_;simp only [if_true];rw [<-kkx c1]; exact f
       | false=>
        simp only [jal,if_false] at f;refine R.q (λK f=>?_) (i _) f;simp only [aop,H];refine key _ ?_;simp only [jal,if_false];rw [<-kkx c1]; exact f
    ·exact kaa f
   ·exact kaa f
  ·exact kaa f
 ·exact kaa f
theorem klW (R:Rel P κ ln z c s env h n) {T:Yc} {m key x:Yf} {u v w:TV sem} (L:TVR P κ ln z s.n u (ev env m)) (Y:TVR P κ ln z s.n v (ev env key)) (M:TVR P κ ln z s.n w (ev env x)) (j:kkK P c s T u v w Kf=some r):Res P κ ln z c s env h n ⟨d,.mapUpdate T m key x,ty,pos,after,g⟩ Kf r:=by
 unfold kkK at j;split at j
 ·rename_i id;split at j
  ·rename_i k w' l kt e hB hT;split at j
   ·rename_i y C Q G;split at j
    ·rename_i I;obtain ⟨c1,J⟩:=I;have t:=kjn c1 R Y Q;generalize W:ev env m=a at L;cases R.blk _ _ (kab hB) with
     | mp _ _ _ q _ E D S=>
      cases L with
      | mp _ Z hN B=>
       rw [D] at B; cases B;obtain ⟨_,F,_⟩:=kaR R M G;have A:ev env x=w'.av C:=keQ E F;have H:h q=some (.map (List.map (kvE (keyV k) w'.av) l)):=S;have f:=@khP _ _ (kaY k c1) _ w'.av (λa b=>@kiV _ c1 a b (kaY k c1 a b)) y C l [];refine ⟨.ud,_,.ud,updH h q (.map ((mputT k l y C).map (kvE (keyV k) w'.av))),n,κ,ln,z,λK j=>?_,j,R.set hB D (.mp k w' _ q c1 E D (by simp only [updH,if_true])),.ud,jah _,λ_ _=>⟨rfl,λ_=>rfl⟩,λI=>by cases I⟩;simp only [aop,W,A,keX,t,hT,H];refine ⟨kgn c1 J y,λx U=>?_,kkG E C,?_⟩
       ·obtain ⟨p,_,rfl⟩:=jaz.1 U; exact kgn c1 J _
       ·rw [krO c1] at j;simp only [jdm,jay] at f;generalize findA (keyV k y) (List.map (kvE (keyV k) w'.av) l) 0=X at f ⊢;cases X with
        | none=>simp only at f ⊢; rw [f]; exact j
        | some q=>obtain ⟨i,a⟩:=q; simp only at f ⊢; rw [f]; exact j
    ·exact kaa j
   ·exact kaa j
  ·exact kaa j
 ·exact kaa j
theorem klu {κ β:Type} [DecidableEq κ] {f:κ->Yd} {vf:β->AV} (e:∀ a b,keyB (f a) (f b)=decide (a=b)) (k:κ):∀ (E:Ya (κ×β)) (i:Nat),findA (f k) (E.map (kvE f vf)) i=(mget E k).map λv=>(i+midxN k E,vf v)
 | [],i=>rfl
 | p::r,i=>by
  simp only [jat,findA,mget,midxN,e,jak];split
  ·rfl
  ·rw [klu e k r (i+1)];cases mget r k with
   | none=>rfl
   | some v=>simp only [jcb]; congr 2; omega
theorem kjy {κ β:Type} [DecidableEq κ] (k:κ):∀ (E:Ya (κ×β)),mget E k=none->midxN k E=E.length
 | [],_=>rfl
 | p::r,h=>by
  simp only [mget] at h;split at h
  ·cases h
  ·rename_i a; simp only [midxN,if_neg a,kjy k r h,jbv]
theorem klY (R:Rel P κ ln z c s env h n) {T:Yc} {m key:Yf} {u v:TV sem} (M:TVR P κ ln z s.n u (ev env m)) (hv:TVR P κ ln z s.n v (ev env key)) (f:kla P c s T u v Kf=some r):Res P κ ln z c s env h n ⟨d,.mapEntry T m key,ty,pos,after,g⟩ Kf r:=by
 unfold kla at f;split at f
 ·rename_i id;split at f
  ·rename_i k w l kt e hB hT;split at f
   ·rename_i x z0 D A;split at f
    ·rename_i G;obtain ⟨c1,I,L,Y⟩:=G;have S:=kbs L;obtain ⟨zv,C,H⟩:=zv_ok L A Y;have j:=kjn c1 R hv D;generalize Z:ev env m=a at M;cases R.blk _ _ (kab hB) with
     | mp _ _ _ q _ J B X=>
      cases M with
      | mp _ q' hN t=>
       rw [B] at t; cases t;have F:h q=some (.map (List.map (kvE (keyV k) w.av) l)):=X;have i:∀ y:w.den,TVR P κ ln z s.n (.c w y) (w.av y):=λy=>.free S;have E:=@klu _ _ (kaY k c1) _ w.av (λa b=>@kiV _ c1 a b (kaY k c1 a b)) x l 0;refine ⟨_,_,.tp [w.av ((mgetT k l x).getD z0),.sc (.int .i64 (midxT k l x))],updH h q (.map ((mentT k l x z0).map (kvE (keyV k) w.av))),n,κ,ln,z,λK f=>?_,f,R.set hB B (.mp k w _ q c1 J B (by simp only [updH,if_true])),.tp _ _ (.cons _ _ _ _ (i _) (.cons _ _ _ _ (.int _ _) .nil)),jah _,λ_ _=>⟨rfl,λ_=>rfl⟩,λG=>by cases G⟩;simp only [aop,Z,kgr,j,hT,F];refine ⟨kgn c1 I x,λx D=>?_,?_⟩
       ·obtain ⟨p,_,rfl⟩:=jaz.1 D; exact kgn c1 I _
       ·rw [E];have e1:mgetT k l x = @mget _ _ (kaY k c1) l x:=kkx c1 l x;have U:midxT k l x=((@midxN _ _ (kaY k c1) x l:Nat):Int):=by unfold midxT; rw [dif_pos c1]; rfl
        have e3:mentT k l x z0 = @ment _ _ (kaY k c1) l x z0:=by unfold mentT; rw [dif_pos c1]
        rw [e1,U,e3] at f;unfold ment at f;have Q:=@kjy _ w.den (kaY k c1) x l;generalize @mget _ _ (kaY k c1) l x=W at f Q ⊢;cases W with
        | some v0=>
         simp only [jcb,jby,jbw] at f ⊢;exact f
        | none=>
         simp only [Option.map_none,Option.getD_none,C] at f ⊢;rw [Q rfl] at f;rw [H];refine ⟨kkG J _,?_⟩;rw [jdb] at f;simpa using f
    ·exact kaa f
   ·exact kaa f
  ·exact kaa f
 ·exact kaa f
theorem knX (R:Rel P κ ln z c s env h n) {T:Yc} {m st x:Yf} {u v w:TV sem} (H:TVR P κ ln z s.n u (ev env m)) (I:TVR P κ ln z s.n v (ev env st)) (M:TVR P κ ln z s.n w (ev env x)) (e:kns c s u v w Kf=some r):Res P κ ln z c s env h n ⟨d,.entryStore T m st x,ty,pos,after,g⟩ Kf r:=by
 unfold kns at e;split at e
 ·rename_i id;split at e
  ·rename_i k w' l hB;split at e
   ·rename_i i C y F;obtain ⟨W,L,e⟩:=jaa.1 e;generalize U:ev env m=a at H;cases R.blk _ _ (kab hB) with
    | mp _ _ _ q c1 D B Q=>
     cases H with
     | mp _ Y hN t=>
      rw [B] at t; cases t;obtain ⟨_,E,_⟩:=kaR R M F;have j:ev env x=w'.av C:=keQ D E;have A:ev env st = .sc (.int .i64 i):=by
       unfold kct at y;split at y
       ·cases y;generalize ev env st=b at I;cases I with
        | c _ _ _ _ S=>exact S.sc_inv
       ·cases y
      have G:h q=some (.map (List.map (kvE (keyV k) w'.av) l)):=Q;obtain ⟨J,f⟩:=kke L;refine ⟨.ud,_,.ud,updH h q (.map ((mset l i C).map (kvE (keyV k) w'.av))),n,κ,ln,z,λK e=>?_,e,R.set hB B (.mp k w' _ q c1 D B (by simp only [updH,if_true])),.ud,jah _,λ_ _=>⟨rfl,λ_=>rfl⟩,λX=>by cases X⟩;simp only [aop,U,j,A,khN,G];refine ⟨J,kkG D C,kvE (keyV k) w'.av W,by rw [jaw,f]; rfl,?_⟩;unfold mset at e;rw [f] at e;simp only at e;rw [List.map_set] at e;exact e
   ·exact kaa e
  ·exact kaa e
 ·exact kaa e
end
section
variable {P:Ye} {κ κ':Nat->Yb Nat} {ln ln':Nat->Nat} {z z':AH} {c:Cx sem} {s:TS sem} {env:Env} {h h':AH} {n n' N N':Nat}
mutual
theorem TVR.has_lt:∀ {v:TV sem} {a:AV},TVR P κ ln z N v a->∀ id,v.has id=true->id<N
 | _,_,.un _,id,h | _,_,.gs _ _,id,h | _,_,.ud,id,h | _,_,.c _ _ _ _ _,id,h | _,_,.kb _,id,h | _,_,.sc _ _,id,h | _,_,.fq _ _ _ _ _ _,id,h | _,_,.cv _ _ _ _ _ _,id,h=>by simp [TV.has] at h
 | _,_,.ptr i j q hN _,id,h | _,_,.adr i _ j q hN _ _ _,id,h | _,_,.aa i _ q hN _ _ _,id,h | _,_,.ax i _ _ q hN _ _ _ _,id,h | _,_,.mw0 i hN _,id,h | _,_,.mw i q hN _,id,h | _,_,.ms0 i _ _ hN _ _ _,id,h | _,_,.ms i _ _ q hN _ _ _ _,id,h | _,_,.mp i q hN _,id,h | _,_,.fw0 i hN _,id,h | _,_,.fw i q hN _,id,h | _,_,.fr0 i _ _ hN _ _,id,h | _,_,.fr i _ _ _ hN _ _,id,h | _,_,.fo i _ _ _ hN _ _ _,id,h | _,_,.fa i _ _ _ _ _ hN _ _ _ _,id,h | _,_,.yl i _ hN _,id,h | _,_,.kp i hN,id,h | _,_,.np0 i hN,id,h | _,_,.np i _ hN _,id,h=>by
  simp only [TV.has,beq_iff_eq] at h; omega
 | _,_,.fn g vs asZ hs,id,h=>TVRs.has_lt hs id h
 | _,_,.tp vs asZ hs,id,h=>TVRs.has_lt hs id h
 | _,_,.ag vs asZ hs _,id,h=>TVRs.has_lt hs id h
theorem TVRs.has_lt:∀ {vs:Ya (TV sem)} {asZ:Ya AV},TVRs P κ ln z N vs asZ->∀ id,TV.has.hasL id vs=true->id<N
 | _,_,.nil,id,h=>by simp [TV.has.hasL] at h
 | _,_,.cons v a vs asZ hv hs,id,h=>by
  simp only [TV.has.hasL,jau] at h;rcases h with h | h
  ·exact TVR.has_lt hv id h
  ·exact TVRs.has_lt hs id h
end
mutual
theorem TVR.congr:∀ {v:TV sem} {a:AV},TVR P κ ln z N v a->(∀ id,v.has id=true->κ' id = κ id/\ln' id=ln id/\id<N')->(∀ q B,z q=some B->z' q=some B)->TVR P κ' ln' z' N' v a
 | _,_,.un a,_,_=>.un a
 | _,_,.ud,_,_=>.ud
 | _,_,.gs t l,_,_=>.gs t l
 | _,_,.yl id q u h,hc,_=>by obtain ⟨f,h2,e⟩:=hc id (by simp [TV.has]); exact .yl id q e (by rw [f]; exact h)
 | _,_,.kp id u,hc,_=>by obtain ⟨f,h2,e⟩:=hc id (by simp [TV.has]); exact .kp id e
 | _,_,.np0 id u,hc,_=>by obtain ⟨f,h2,e⟩:=hc id (by simp [TV.has]); exact .np0 id e
 | _,_,.np id q u h,hc,_=>by obtain ⟨f,h2,e⟩:=hc id (by simp [TV.has]); exact .np id q e (by rw [f]; exact h)
 | _,_,.c t x a hd h,_,hz=>.c t x a hd (h.mono hz)
 | _,_,.kb b,_,_=>.kb b
 | _,_,.sc v f,_,_=>.sc v f
 | _,_,.ptr id j q u h,hc,_=>by obtain ⟨f,h2,e⟩:=hc id (by simp [TV.has]); exact .ptr id j q e (by rw [f]; exact h)
 | _,_,.adr id i j q u h g0 g1,hc,_=>by obtain ⟨f,h2,e⟩:=hc id (by simp [TV.has]); exact .adr id i j q e (by rw [f]; exact h) g0 (by rw [h2]; exact g1)
 | _,_,.aa id i q u h g0 g1,hc,_=>by obtain ⟨f,h2,e⟩:=hc id (by simp [TV.has]); exact .aa id i q e (by rw [f]; exact h) g0 (by rw [h2]; exact g1)
 | _,_,.ax id i k q u h g0 g1 g2,hc,_=>by obtain ⟨f,h2,e⟩:=hc id (by simp [TV.has]); exact .ax id i k q e (by rw [f]; exact h) g0 (by rw [h2]; exact g1) g2
 | _,_,.fq t x o a hd h,_,hz=>.fq t x o a hd (h.mono hz)
 | _,_,.mw0 id u h,hc,_=>by obtain ⟨f,h2,e⟩:=hc id (by simp [TV.has]); exact .mw0 id e (by rw [f]; exact h)
 | _,_,.mw id q u h,hc,_=>by obtain ⟨f,h2,e⟩:=hc id (by simp [TV.has]); rw [<-h2]; exact .mw id q e (by rw [f]; exact h)
 | _,_,.ms0 id o l u h ho hl,hc,_=>by obtain ⟨f,h2,e⟩:=hc id (by simp [TV.has]); exact .ms0 id o l e (by rw [f]; exact h) ho hl
 | _,_,.ms id o l q u h g0 g1 g2,hc,_=>by obtain ⟨f,h2,e⟩:=hc id (by simp [TV.has]); exact .ms id o l q e (by rw [f]; exact h) g0 g1 (by rw [h2]; exact g2)
 | _,_,.mp id q u h,hc,_=>by obtain ⟨f,h2,e⟩:=hc id (by simp [TV.has]); exact .mp id q e (by rw [f]; exact h)
 | _,_,.fw0 id u h,hc,_=>by obtain ⟨f,h2,e⟩:=hc id (by simp [TV.has]); exact .fw0 id e (by rw [f]; exact h)
 | _,_,.fw id q u h,hc,_=>by obtain ⟨f,h2,e⟩:=hc id (by simp [TV.has]); rw [<-h2]; exact .fw id q e (by rw [f]; exact h)
 | _,_,.fr0 id i m u h0 h,hc,_=>by obtain ⟨f,h2,e⟩:=hc id (by simp [TV.has]); exact .fr0 id i m e h0 (by rw [h2]; exact h)
 | _,_,.fr id i r m u h0 h,hc,_=>by obtain ⟨f,h2,e⟩:=hc id (by simp [TV.has]); exact .fr id i r m e h0 (by rw [h2]; exact h)
 | _,_,.fo id i j q u h g0 g1,hc,_=>by obtain ⟨f,h2,e⟩:=hc id (by simp [TV.has]); exact .fo id i j q e (by rw [f]; exact h) g0 (by rw [h2]; exact g1)
 | _,_,.fa id i k o r m u h0 h hk hm,hc,_=>by obtain ⟨f,h2,e⟩:=hc id (by simp [TV.has]); exact .fa id i k o r m e h0 (by rw [h2]; exact h) hk hm
 | _,_,.fn g vs asZ h,hc,hz=>.fn g vs asZ (TVRs.congr h (λid u=>hc id u) hz)
 | _,_,.cv m x y F a h,_,_=>.cv m x y F a h
 | _,_,.tp vs asZ h,hc,hz=>.tp vs asZ (TVRs.congr h (λid u=>hc id u) hz)
 | _,_,.ag vs asZ h f,hc,hz=>.ag vs asZ (TVRs.congr h (λid u=>hc id u) hz) f
theorem TVRs.congr:∀ {vs:Ya (TV sem)} {asZ:Ya AV},TVRs P κ ln z N vs asZ->(∀ id,TV.has.hasL id vs=true->κ' id = κ id/\ln' id=ln id/\id<N')->(∀ q B,z q=some B->z' q=some B)->TVRs P κ' ln' z' N' vs asZ
 | _,_,.nil,_,_=>.nil
 | _,_,.cons v a vs asZ h hs,hc,hz=>.cons v a vs asZ (TVR.congr h (λid b=>hc id (by simp [TV.has.hasL,b])) hz) (TVRs.congr hs (λid b=>hc id (by simp [TV.has.hasL,b])) hz)
end
theorem BR.congr {id:Nat} {B:TB sem} (D:BR P κ ln z h N id B) (b:κ' id = κ id/\ln' id=ln id) (K:∀ i,B.has i=true->κ' i = κ i/\ln' i=ln i/\i<N') (hz:∀ q B,z q=some B->z' q=some B):BR P κ' ln' z' h N' id B:=by
 cases D with
 | bx T vs q asZ a hB y m=>exact .bx T vs q asZ (by rw [b.1]; exact a) hB (y.congr (λi h=>K i h) hz) m
 | el T t x q cs f a hB y m hl=>exact .el T t x q cs f (by rw [b.1]; exact a) hB (y.mono hz) m (by rw [b.2]; exact hl)
 | sl0 T t l f a hl hn=>exact .sl0 T t l f (by rw [b.1]; exact a) hl (by rw [b.2]; exact hn)
 | sl T t l q es f a hB y m hn=>exact .sl T t l q es f (by rw [b.1]; exact a) hB (y.mono hz) m (by rw [b.2]; exact hn)
 | mp k v l q E H a hB=>exact .mp k v l q E H (by rw [b.1]; exact a) hB
 | si x q a A hB=>exact .si x q (by rw [b.1]; exact a) A hB
 | fm0 T t j U u l C f a hl hn=>exact .fm0 T t j U u l C f (by rw [b.1]; exact a) hl (by rw [b.2]; exact hn)
 | fm T t j U u l C q es f a hB hn hl y A m=>exact .fm T t j U u l C q es f (by rw [b.1]; exact a) hB (by rw [b.2]; exact hn) hl (λi x e I h2 J F G=>(y i x e I h2 J (by rw [<-b.2]; exact F) G).mono hz λ_ _ _ h=>h) (by rw [b.2]; exact A) m
theorem BR.has_lt {id:Nat} {B:TB sem} (e:BR P κ ln z h N id B):∀ i,B.has i=true->i<N:=by
 intro i a;cases e with
 | bx T vs q asZ f hB b j=>exact b.has_lt i a
 | _=>simp [TB.has] at a
structure MExt (m m':Mt sem):Prop where
 ids:∀ p q,alk m.ids p=some q->alk m'.ids p=some q
 sn:∀ x∈m.sn,x∈m'.sn
theorem MExt.refl (m:Mt sem):MExt m m:=⟨λ_ _ h=>h,λ_ h=>h⟩
theorem MExt.trans {m b a:Mt sem} (h:MExt m b) (g:MExt b a):MExt m a:=⟨λp q e=>g.ids p q (h.ids p q e),λx e=>g.sn x (h.sn x e)⟩
theorem kcM {m j:Mt sem} {p q:Nat} (h:m.bindId p q=some j):MExt m j/\alk j.ids p=some q/\j.cs=m.cs/\j.sn=m.sn/\(∀ x y a,alk j.ids x=some a->alk j.ids y=some a->(∀ x y a,alk m.ids x=some a->alk m.ids y=some a->x=y)->x=y):=by
 unfold Mt.bindId at h;split at h
 ·rename_i B u;split at h
  ·rename_i e; cases h; subst e;exact ⟨.refl _,u,rfl,rfl,λx y a i b v=>v x y a i b⟩
  ·cases h
 ·rename_i u;split at h
  ·rename_i f;cases h;have k:∀ (l:Ya (Nat×Nat)) (x a:Nat),alk l x=some a->∃ y∈l,y.2=a:=by
    intro l;induction l with
    | nil=>intro x a h; simp [alk] at h
    | cons y l A=>
     intro x a h;simp only [alk] at h;split at h
     ·cases h; exact ⟨y,by simp,rfl⟩
     ·obtain ⟨w,t,e⟩:=A x a h; exact ⟨w,by simp [t],e⟩
   refine ⟨⟨λE B e=>?_,λx h=>h⟩,by simp [alk],rfl,rfl,λx y a i b v=>?_⟩
   ·simp only [alk];rw [if_neg (by rintro rfl; rw [u] at e; cases e)]; exact e
   ·simp only [alk] at i b;split at i
    ·rename_i D;split at b
     ·rename_i C; omega
     ·cases i;obtain ⟨w,t,e⟩:=k _ _ _ b;have:=jam.1 f w t;simp [e] at this
    ·split at b
     ·cases b;obtain ⟨w,t,e⟩:=k _ _ _ i;have:=jam.1 f w t;simp [e] at this
     ·exact v x y a i b
  ·cases h
structure Fin (o:Nat->List Nat) (κ:Nat->Option Nat) (ln:Nat->Nat) (h z:AH) (m:Mt sem) (κ2:Nat->Option Nat) (ln2:Nat->Nat) (z2:AH) (N2:Nat):Prop where
 k:∀ p q,alk m.ids p=some q->κ2 p = κ q/\ln2 p=ln q/\p<N2
 z:∀ q B,hz o h z m.sn q=some B->z2 q=some B
theorem Fin.back {o:Nat->Ya Nat} {m t:Mt sem} {l:Nat->Yb Nat} {a:Nat->Nat} {z2:AH} {j:Nat} (b:∀ q B,z q=some B->h q=some B) (e:MExt m t) (f:Fin o κ ln h z t l a z2 j):Fin o κ ln h z m l a z2 j:=
 ⟨λp q i=>f.k p q (e.ids p q i),λq B i=>f.z q B (kbF b e.sn q B i)⟩
def Inj (m:Mt sem):Prop:=∀ x y a,alk m.ids x=some a->alk m.ids y=some a->x=y
mutual
theorem kln (R:Rel P κ ln z c s env h n):∀ (Z:PV) {v:TV sem} {a:AV} {m D:Mt sem},TVR P κ ln z s.n v a->mtV c s Z v m=some D->
  ∃ new,D.cs=m.cs++new/\MExt m D/\(Inj m->Inj D)/\∀ I A z2 H,Fin (ows κ ln c s) κ ln h z D I A z2 H->∀ rest,∃ Y,unV Z (new++rest)=(Y,rest)/\TVR P I A z2 H Y a
 | .un,v,a,m,D,hv,b=>by simp only [mtV,Option.some.injEq] at b; subst b; exact ⟨[],by simp,.refl _,id,λ_ _ _ _ _ rest=>⟨.un,rfl,.un a⟩⟩
 | .ud,v,a,m,D,hv,b=>by
  cases v <;> simp only [mtV,Option.some.injEq,reduceCtorEq] at b;subst b; cases hv;exact ⟨[],by simp,.refl _,id,λ_ _ _ _ _ rest=>⟨.ud,rfl,.ud⟩⟩
 | .gs t,v,a,m,D,hv,b=>by
  cases v <;> simp only [mtV,jab,reduceCtorEq] at b;rename_i t' l;obtain ⟨y,F,rfl⟩:=b;obtain ⟨e,rfl⟩:=kah F;cases e;cases hv;exact ⟨[⟨.sl t,l⟩],rfl,⟨λ_ _ h=>h,λx G=>G⟩,id,λ_ _ _ _ _ rest=>⟨.gs t l,by simp [unV,tcast],.gs t l⟩⟩
 | .c t,v,a,m,D,hv,b=>by
  simp only [mtV,jab] at b;obtain ⟨y,F,rfl⟩:=b;obtain ⟨hd,C,h2⟩:=kaR R hv F;refine ⟨[⟨t,y.1⟩],rfl,⟨λ_ _ h=>h,λx G=>by simp [G]⟩,id,λI A z2 H f rest=>⟨.c t y.1,rfl,.c t y.1 a hd (C.mono λq B E=>f.z q B (kbF R.zin (λi J=>by simp [J]) q B E))⟩⟩
 | .sc u,v,a,m,D,hv,b=>by
  cases v <;> simp only [mtV,jcv,Option.some.injEq,reduceCtorEq] at b;rename_i w;obtain ⟨hc,rfl⟩:=b;cases hv with
  | sc _ hw=>
   have e:u=w:=by
    rcases hc with ⟨C,h2⟩ | ⟨C,h2⟩ | ⟨C,h2⟩
    ·rw [kaE C,kaE h2]
    ·rw [kfP C,kfP h2]
    ·rw [klH C,klH h2]
   rw [e];exact ⟨[],by simp,.refl _,id,λ_ _ _ _ _ rest=>⟨.sc w,rfl,.sc w hw⟩⟩
 | .ptr p j,v,a,m,D,hv,b=>by
  cases v <;> simp only [mtV,jcv,reduceCtorEq] at b;obtain ⟨rfl,b⟩:=b;obtain ⟨C,h2,M,Q,L⟩:=kcM b;cases hv with
  | ptr id j q hN E=>exact ⟨[],by simp [M],C,λJ x y a G F=>L x y a G F J,λI A z2 H f rest=>⟨.ptr p j,rfl,by obtain ⟨k1,k2,k3⟩:=f.k p _ h2; exact .ptr p j q k3 (by rw [k1]; exact E)⟩⟩
 | .mw p,v,a,m,D,hv,b=>by
  cases v <;> simp only [mtV,reduceCtorEq] at b;obtain ⟨C,h2,M,Q,L⟩:=kcM b;refine ⟨[],by simp [M],C,λJ x y a G F=>L x y a G F J,λI A z2 H f rest=>⟨.mw p,rfl,?_⟩⟩;obtain ⟨k1,k2,k3⟩:=f.k p _ h2;cases hv with
  | mw0 _ hN E=>exact .mw0 p k3 (by rw [k1]; exact E)
  | mw _ q hN E=>rw [<-k2]; exact .mw p q k3 (by rw [k1]; exact E)
 | .mp p,v,a,m,D,hv,b=>by
  cases v <;> simp only [mtV,reduceCtorEq] at b;obtain ⟨C,h2,M,Q,L⟩:=kcM b;cases hv with
  | mp id q hN E=>exact ⟨[],by simp [M],C,λJ x y a G F=>L x y a G F J,λI A z2 H f rest=>⟨.mp p,rfl,by obtain ⟨k1,k2,k3⟩:=f.k p _ h2; exact .mp p q k3 (by rw [k1]; exact E)⟩⟩
 | .fw p,v,a,m,D,hv,b=>by
  cases v <;> simp only [mtV,reduceCtorEq] at b;obtain ⟨C,h2,M,Q,L⟩:=kcM b;refine ⟨[],by simp [M],C,λJ x y a G F=>L x y a G F J,λI A z2 H f rest=>⟨.fw p,rfl,?_⟩⟩;obtain ⟨k1,k2,k3⟩:=f.k p _ h2;cases hv with
  | fw0 _ hN E=>exact .fw0 p k3 (by rw [k1]; exact E)
  | fw _ q hN E=>rw [<-k2]; exact .fw p q k3 (by rw [k1]; exact E)
 | .np p,v,a,m,D,hv,b=>by
  cases v <;> simp only [mtV,reduceCtorEq] at b;obtain ⟨C,h2,M,Q,L⟩:=kcM b;refine ⟨[],by simp [M],C,λJ x y a G F=>L x y a G F J,λI A z2 H f rest=>⟨.np p,rfl,?_⟩⟩;obtain ⟨k1,k2,k3⟩:=f.k p _ h2;cases hv with
  | np0 _ hN=>exact .np0 p k3
  | np _ q hN E=>exact .np p q k3 (by rw [k1]; exact E)
 | .fn g vs,v,a,m,D,hv,b=>by
  cases v <;> simp only [mtV,jcv,reduceCtorEq] at b;obtain ⟨rfl,b⟩:=b;cases hv with
  | fn _ us asZ W=>
   obtain ⟨new,U,S,X,T⟩:=kfF R vs W b;refine ⟨new,U,S,X,λI A z2 H f rest=>?_⟩;obtain ⟨K,k1,k2⟩:=T I A z2 H f rest;exact ⟨.fn g K,by simp only [unV,k1],.fn g K asZ k2⟩
 | .ag vs,v,a,m,D,hv,b=>by
  cases v <;> simp only [mtV,reduceCtorEq] at b;cases hv with
  | ag us asZ W C=>
   obtain ⟨new,U,S,X,T⟩:=kfF R vs W b;refine ⟨new,U,S,X,λI A z2 H f rest=>?_⟩;obtain ⟨K,k1,k2⟩:=T I A z2 H f rest;exact ⟨.ag K,by simp only [unV,k1],.ag K asZ k2 C⟩
theorem kfF (R:Rel P κ ln z c s env h n):∀ (e:Ya PV) {vs:Ya (TV sem)} {asZ:Ya AV} {m i:Mt sem},TVRs P κ ln z s.n vs asZ->mtL c s e vs m=some i->
  ∃ new,i.cs=m.cs++new/\MExt m i/\(Inj m->Inj i)/\∀ t b z2 l,Fin (ows κ ln c s) κ ln h z i t b z2 l->∀ rest,∃ j,unL e (new++rest)=(j,rest)/\TVRs P t b z2 l j asZ
 | [],[],_,m,i,.nil,hm=>by simp only [mtL,Option.some.injEq] at hm; subst hm; exact ⟨[],by simp,.refl _,id,λ_ _ _ _ _ rest=>⟨[],rfl,.nil⟩⟩
 | [],_::_,_,m,i,_,hm=>by simp [mtL] at hm
 | _::_,[],_,m,i,_,hm=>by simp [mtL] at hm
 | pv::e,v::vs,_,m,i,.cons _ a _ asZ hv hvs,hm=>by
  simp only [mtL,jaa] at hm;obtain ⟨H,C,h2⟩:=hm;obtain ⟨u,F,a2,a3,a4⟩:=kln R pv hv C;obtain ⟨k,y,x,B,D⟩:=kfF R e hvs h2;refine ⟨u++k,by rw [y,F,jar],a2.trans x,λE=>B (a3 E),λt b z2 l f rest=>?_⟩;obtain ⟨A,k1,k2⟩:=a4 t b z2 l (f.back R.zin x) (k++rest);obtain ⟨j,k3,G⟩:=D t b z2 l f rest;exact ⟨A::j,by simp only [unL,jar,k1,k3],.cons _ _ _ _ k2 G⟩
end
theorem kqJ (R:Rel P κ ln z c s env h n) {X:PB} {q p:Nat} {B:TB sem} {m L:Mt sem} (hB:thp c s q=some B) (A:mtB c s X B m=some L) :
  ∃ new,L.cs=m.cs++new/\MExt m L/\(Inj m->Inj L)/\∀ E b z2 G,Fin (ows κ ln c s) κ ln h z L E b z2 G->E p = κ q/\b p=ln q->∀ rest,∃ Q,unB X (new++rest)=(some Q,rest)/\BR P E b z2 h G p Q/\Q.isF=B.isF:=by
 have K:=R.blk q B hB;unfold mtB at A;split at A
 ·rename_i T vs S us;split at A
  ·rename_i e;subst e;cases K with
   | bx _ _ D asZ a C H I=>
    obtain ⟨new,g1,Y,g3,g4⟩:=kfF R vs H A;refine ⟨new,g1,Y,g3,λE b z2 G f hp rest=>?_⟩;obtain ⟨M,k1,k2⟩:=g4 E b z2 G f rest;exact ⟨.bx T M,by simp only [unB,k1],.bx T M D asZ (by rw [hp.1]; exact a) (by rw [<-k2.len,H.len]; exact C) k2 I,rfl⟩
  ·cases A
 ·rename_i T t S t' x;split at A
  ·rename_i e;subst e;simp only [jab] at A;obtain ⟨y,J,rfl⟩:=A;obtain ⟨e,rfl⟩:=kah J;cases e;cases K with
   | el _ _ _ D cs F a C H I hl=>
    exact ⟨[⟨t,x⟩],rfl,⟨λ_ _ h=>h,λ_ h=>h⟩,id,λE b z2 G f hp rest=>⟨.el T t x,by simp [unB,tcast],.el T t x D cs F (by rw [hp.1]; exact a) C (H.mono λq B a=>f.z q B (hz_z R.zin q B a)) I (by rw [hp.2]; exact hl),rfl⟩⟩
  ·cases A
 ·rename_i T t S t' l;split at A
  ·rename_i e;subst e;simp only [jab] at A;obtain ⟨y,J,rfl⟩:=A;obtain ⟨e,rfl⟩:=kah J;cases e;refine ⟨[⟨.sl t,l⟩],rfl,⟨λ_ _ h=>h,λ_ h=>h⟩,id,λE b z2 G f hp rest=>⟨.sl T t l,by simp [unB,tcast],?_,rfl⟩⟩;cases K with
   | sl0 _ _ _ F a hl hn=>exact .sl0 T t l F (by rw [hp.1]; exact a) hl (by rw [hp.2]; exact hn)
   | sl _ _ _ D es F a C H I hn=>exact .sl T t l D es F (by rw [hp.1]; exact a) C (H.mono λq B a=>f.z q B (hz_z R.zin q B a)) I (by rw [hp.2]; exact hn)
  ·cases A
 ·rename_i k v k' v' l;simp only [jab] at A;obtain ⟨y,J,rfl⟩:=A;obtain ⟨e,rfl⟩:=kah J;cases e;cases K with
  | mp _ _ _ D Z hf a C=>exact ⟨[⟨.sl (.pr k v),l⟩],rfl,⟨λ_ _ h=>h,λ_ h=>h⟩,id,λE b z2 G f hp rest=>⟨.mp k v l,by simp [unB,tcast],.mp k v l D Z hf (by rw [hp.1]; exact a) C,rfl⟩⟩
 ·rename_i T t j U u S t' j' U' u' l;split at A
  ·rename_i e;obtain ⟨rfl,rfl,rfl,rfl⟩:=e;simp only [jab] at A;obtain ⟨y,J,rfl⟩:=A;obtain ⟨e,rfl⟩:=kah J;cases e;refine ⟨[⟨.sl t,l⟩],rfl,⟨λ_ _ h=>h,λ_ h=>h⟩,id,λE b z2 G f hp rest=>⟨.fm T t j U u l none,by simp [unB,tcast],?_,rfl⟩⟩;cases K with
   | fm0 _ _ _ _ _ _ _ F a hl hn=>exact .fm0 T t j U u l none F (by rw [hp.1]; exact a) hl (by rw [hp.2]; exact hn)
   | fm _ _ _ _ _ _ _ D es F a C hn hl H W I=>exact .fm T t j U u l none D es F (by rw [hp.1]; exact a) C (by rw [hp.2]; exact hn) hl (λi x e rm h2 h3 h4 h5=>(H i x e rm h2 h3 (by rw [<-hp.2]; exact h4) h5).mono (λq B a=>f.z q B (hz_z R.zin q B a)) λ_ _ _ h=>h) (λ_ _ e=>by cases e) I
  ·cases A
 ·rename_i x;cases A;cases K with
  | si _ D a W C=>exact ⟨[⟨.pr .s (.i .i64),x⟩],rfl,⟨λ_ _ h=>h,λ_ h=>h⟩,id,λE b z2 G f hp rest=>⟨.si x,by simp [unB,tcast],.si x D (by rw [hp.1]; exact a) W C,rfl⟩⟩
 ·cases A
end
theorem kaq {α:Type}:∀ {l:Ya (Nat×α)} {x:Nat} {v:α},alk l x=some v->(x,v)∈l
 | [],x,v,h=>by simp [alk] at h
 | (k,w)::l,x,v,h=>by
  simp only [alk] at h;split at h
  ·rename_i e; cases h; subst e; simp
  ·exact jbc _ (kaq h)
theorem kaS {α:Type}:∀ (l l':Ya (Nat×α)) (x:Nat),alk (l++l') x=match alk l x with | some v=>some v | none=>alk l' x
 | [],l',x=>rfl
 | (k,w)::l,l',x=>by
  simp only [jdp,alk];split
  ·rfl
  ·exact kaS l l' x
theorem koF {t u:Ty} {ts:Ya Ty} {p:(t:Ty)×t.den} {l:Ya ((t:Ty)×t.den)}:mkT sem (t::u::ts) (p::l)=(tcast (A:=sem) t p.2).bind λx=>(mkT sem (u::ts) l).map λy=>((x,y):t.den×(tup (u::ts)).den):=rfl
section
variable {P:Ye} {κ κ':Nat->Yb Nat} {ln ln':Nat->Nat} {z z':AH} {c:Cx sem} {s:TS sem} {env:Env} {h h':AH} {n n' N N':Nat}
theorem kkt:∀ (ts:Ya Ty) (l:Ya ((t:Ty)×t.den)) (x:(tup ts).den),mkT sem ts l=some x->unT sem ts x=l:=by
 intro ts;induction ts with
 | nil=>
  intro l x h;cases l with
  | nil=>rfl
  | cons p l=>exact kaa (r:=x) h
 | cons t ts i=>
  intro l x h;cases ts with
  | nil=>
   cases l with
   | nil=>exact kaa (r:=x) h
   | cons p l=>
    cases l with
    | nil=>
     obtain ⟨t',y⟩:=p;obtain ⟨e,rfl⟩:=kah h;cases e; rfl
    | cons q l=>exact kaa (r:=x) h
  | cons u ts=>
   cases l with
   | nil=>exact kaa (r:=x) h
   | cons p l=>
    rw [koF] at h;obtain ⟨j,b,h⟩:=jaa.1 h;obtain ⟨f,a,rfl⟩:=jab.1 h;obtain ⟨t',y⟩:=p;obtain ⟨e,rfl⟩:=kah b;cases e;show _::unT sem (u::ts) f=_::l;rw [i l f a]
theorem khU (R:Rel P κ ln z c s env h n):∀ (l:Ya (Nat×PV)) {m i:Mt sem},mtE c s l m=some i->
  ∃ new,i.cs=m.cs++new/\MExt m i/\(Inj m->Inj i)/\∀ t a z2 k,Fin (ows κ ln c s) κ ln h z i t a z2 k->∀ rest,∃ E,unE l (new++rest)=(E,rest)/\(∀ y v,alk E y=some v->TVR P t a z2 k v (lk env y))/\∀ y,(alk E y).isSome=(alk l y).isSome
 | [],m,i,hm=>by simp only [mtE,Option.some.injEq] at hm; subst hm; exact ⟨[],by simp,.refl _,id,λ_ _ _ _ _ rest=>⟨[],rfl,λy v j=>by simp [alk] at j,λ_=>rfl⟩⟩
 | (x,pv)::l,m,i,hm=>by
  simp only [mtE,jaa] at hm;obtain ⟨L,F,h2⟩:=hm;obtain ⟨u,J,a2,a3,a4⟩:=kln R pv (R.env x) F;obtain ⟨b,B,A,D,H⟩:=khU R l h2;refine ⟨u++b,by rw [B,J,jar],a2.trans A,λI=>D (a3 I),λt a z2 k f rest=>?_⟩;obtain ⟨C,k1,k2⟩:=a4 t a z2 k (f.back R.zin A) (b++rest);obtain ⟨E,k3,K,G⟩:=H t a z2 k f rest;refine ⟨(x,C)::E,by simp only [unE,jar,k1,k3],λy v j=>?_,λy=>?_⟩
  ·simp only [alk] at j;split at j
   ·rename_i e; cases j; subst e; exact k2
   ·exact K y v j
  ·simp only [alk];split
   ·rfl
   ·exact G y
theorem krz {m b:Mt sem} {id:Nat} (h:mtI c m id=some b):b.cs=m.cs/\MExt m b/\(Inj m->Inj b):=by
 unfold mtI at h;split at h
 ·obtain ⟨f,h2,j,t,i⟩:=kcM h;exact ⟨j,f,λk x y a l e=>i x y a l e k⟩
 ·cases h; exact ⟨rfl,.refl _,λh=>h⟩
theorem khM (R:Rel P κ ln z c s env h n):∀ (l:Ya (Nat×PB)) {m t:Mt sem},mtH c s l m=some t->
  ∃ new,t.cs=m.cs++new/\MExt m t/\(Inj m->Inj t)/\∀ C i z2 A,Fin (ows κ ln c s) κ ln h z t C i z2 A->∀ rest,∃ H,unH l (new++rest)=(H,rest)/\(∀ id b,alk H id=some b->∃ B q F,b=some B/\alk t.ids id=some q/\alk s.hp q=some (some F)/\BR P C i z2 h A id B/\B.isF=F.isF)/\∀ y,(alk H y).isSome=(alk l y).isSome
 | [],m,t,a=>by simp only [mtH,Option.some.injEq] at a; subst a; exact ⟨[],by simp,.refl _,id,λ_ _ _ _ _ rest=>⟨[],rfl,λy v u=>by simp [alk] at u,λ_=>rfl⟩⟩
 | (x,pb)::l,m,t,a=>by
  simp only [mtH] at a;obtain ⟨m0,L,a⟩:=jaa.1 a;obtain ⟨Y,i2,i3⟩:=krz L;split at a
  ·cases a
  ·rename_i q Q;split at a
   ·rename_i F hB0;simp only [jaa] at a;obtain ⟨m1,S,h2⟩:=a;obtain ⟨D,Z,a2,a3,a4⟩:=kqJ (p:=x) R (kab hB0) S;obtain ⟨j,K,G,M,W⟩:=khM R l h2;refine ⟨D++j,by rw [K,Z,Y,jar],i2.trans (a2.trans G),λX=>M (a3 (i3 X)),λC i z2 A f rest=>?_⟩;have E:=G.ids _ _ (a2.ids _ _ Q);obtain ⟨k0,I,_⟩:=f.k x q E;obtain ⟨J,k1,k2,U⟩:=a4 C i z2 A (f.back R.zin G) ⟨k0,I⟩ (j++rest);obtain ⟨H,k3,k4,T⟩:=W C i z2 A f rest;refine ⟨(x,some J)::H,by simp only [unH,jar,k1,k3],λy b u=>?_,λy=>?_⟩
    ·simp only [alk] at u;split at u
     ·rename_i e; cases u; subst e; exact ⟨J,q,F,rfl,E,hB0,k2,U⟩
     ·exact k4 y b u
    ·simp only [alk];split
     ·rfl
     ·exact T y
   ·cases a
theorem kbT {x:Nat} {v:TV sem} (b:alk c.e0 x=some v) {id:Nat} (a:v.has id=true):c.has id=true:=by
 unfold Cx.has;simp only [jau,jbi];exact .inl (.inr ⟨_,kaq b,a⟩)
theorem has_g {id:Nat} {B:TB sem} (a:alk c.g id=some B):c.has id=true:=by unfold Cx.has; simp [a]
theorem kno {j:Nat} {B:TB sem} (b:alk c.g j=some B) {id:Nat} (a:B.has id=true):c.has id=true:=by
 unfold Cx.has;simp only [jau,jbi];exact .inr ⟨_,kaq b,a⟩
theorem Rel.g_thp (R:Rel P κ ln z c s env h n) {id:Nat} {B:TB sem} (a:alk c.g id=some B):thp c s id=some B:=by
 unfold thp;cases e:alk s.hp id with
 | some b=>have:=R.g _ _ e; rw [a] at this; cases this
 | none=>exact a
theorem Rel.e0_tlk (R:Rel P κ ln z c s env h n) {x:Nat} {v:TV sem} (a:alk c.e0 x=some v):tlk c s x=v:=by
 unfold tlk;cases e:alk s.env x with
 | some b=>have:=R.e0 _ _ e; rw [a] at this; cases this
 | none=>simp [a]
theorem kmq (R:Rel P κ ln z c s env h n) {p:Pat} {x:p.ty.den} (hc:∀ id,c.has id=true->id<N) (hp:pack c N p s=some x) (c2:Cx sem) (L:TS sem) (hN:N<=L.n)
  (hE:∀ y,tlk c2 L y=(match alk (kac (A:=sem) p N x).env y with | some v=>v | none=>(alk c.e0 y).getD .un)\/tlk c2 L y = .un)
  (hH:∀ id B,thp c2 L id=some B->alk (kac (A:=sem) p N x).hp id=some (some B)\/alk c.g id=some B)
  (an:∀ x v,alk L.env x=some v->alk c2.e0 x=none) (hg:∀ id b,alk L.hp id=some b->alk c2.g id=none) (ay:L.dy=true):∃ K f z2,Rel P K f z2 c2 L env h n/\∀ id,c.has id=true->K id = κ id/\f id=ln id:=by
 unfold pack at hp;obtain ⟨m1,ax,hp⟩:=jaa.1 hp;obtain ⟨m,hm,hp⟩:=jaa.1 hp;obtain ⟨aa,hp⟩:=jcv.1 hp;simp only [jac,jam,jau,jbj,jak] at aa;obtain ⟨⟨ab,aj⟩,ad⟩:=aa;obtain ⟨Y,a1,a2,a3,a4⟩:=khU R _ ax;obtain ⟨Q,b1,b2,b3,b4⟩:=khM R _ hm;simp only [jay] at a1;have ar:m.cs=Y++Q:=by rw [b1,a1]
 have X:Inj m:=b3 (a3 (λx y a hx=>by simp [alk] at hx));let K:Nat->Yb Nat:=λid=>match alk m.ids id with | some q=>κ q | none=>κ id
 let f:Nat->Nat:=λid=>match alk m.ids id with | some q=>ln q | none=>ln id
 have C:∀ {p q:Nat},alk m.ids p=some q->K p = κ q/\f p=ln q:=λ{p q} G=>by simp only [K,f,G]; exact ⟨trivial,trivial⟩
 have l:∀ {id:Nat},c.has id=true->K id = κ id/\f id=ln id:=λ{id} t=>by
  cases G:alk m.ids id with
  | none=>simp only [K,f,G]; exact ⟨trivial,trivial⟩
  | some q=>
   rcases ad _ (kaq G) with e | ⟨_,e⟩
   ·have e:id=q:=e;subst e; exact C G
   ·have e:c.has id=false:=e;rw [e] at t; cases t
 have fin:Fin (ows κ ln c s) κ ln h z m K f (hz (ows κ ln c s) h z m.sn) L.n:=⟨λp q G=>⟨(C G).1,(C G).2,jao (aj _ (kaq G)) hN⟩,λq B G=>G⟩;obtain ⟨E,e1,e2,e3⟩:=a4 K f _ L.n (fin.back R.zin b2) Q;obtain ⟨H,f1,f2,f3⟩:=b4 K f _ L.n fin [];have am:unT sem p.tys x=Y++Q:=by rw [<-ar]; exact kkt _ _ _ hp
 rw [jbf] at f1;have ai:(kac (A:=sem) p N x).env=E:=by simp only [kac,am,e1]
 have aw:(kac (A:=sem) p N x).hp=H:=by simp only [kac,am,e1,f1]
 rw [ai] at hE;rw [aw] at hH;have ah:∀ id∈m.sn,∃ B,alk s.hp id=some (some B):=λid t=>by
  have:=(ab id t).1.1;cases ho:ownB s id with
  | none=>rw [ho] at this; cases this
  | some B=>exact ⟨B,kbo ho⟩
 have ae:∀ {id q:Nat} {B:TB sem},thp c s id=some B->Ow κ ln id B q->(id∉m.sn)->hz (ows κ ln c s) h z m.sn q=none:=λ{id q B} hB M au=>by
  unfold hz;rw [if_neg]
  ·exact R.owZ hB M
  ·intro S;obtain ⟨j,F,ap⟩:=jbi.1 S;obtain ⟨Bj,hBj⟩:=ah j F;have:=R.owI hB (kab hBj) M (kbu (kab hBj) (by simpa using ap));subst this; exact au F
 have Z:∀ {id:Nat} {B:TB sem},alk H id=some (some B)->∃ q u,alk m.ids id=some q/\alk s.hp q=some (some u)/\BR P K f (hz (ows κ ln c s) h z m.sn) h L.n id B/\B.isF=u.isF:=λ{id B} hB=>by
  obtain ⟨B',q,u,g1,D,I,U,g5⟩:=f2 id _ hB;cases g1;exact ⟨q,u,D,I,U,g5⟩
 have J:∀ {id:Nat} {B:TB sem},alk H id=some (some B)->∃ q u,alk m.ids id=some q/\alk s.hp q=some (some u)/\BR P K f (hz (ows κ ln c s) h z m.sn) h L.n id B:=λ{id B} hB=>by
  obtain ⟨q,u,D,I,U,_⟩:=Z hB;exact ⟨q,u,D,I,U⟩
 have al:∀ {id q:Nat},alk m.ids id=some q->q∉m.sn:=λ{id q} G t=>by
  have:=(ab q t).2 _ (kaq G);simp at this
 have ak:∀ {id:Nat} {B:TB sem},alk c.g id=some B->id∉m.sn:=λ{id B} hB t=>by
  have:=(ab id t).1.2;rw [has_g hB] at this; cases this
 refine ⟨K,f,hz (ows κ ln c s) h z m.sn,⟨λy=>?_,λid B hB=>?_,λid B hB=>?_,λi j B B' q t F ki W=>?_,kbR R.zin,λid B q hB M=>?_,λid B q hB M=>?_,R.hn,an,hg,(λhd=>by rw [ay] at hd; cases hd),λq k T es G e he=>?_,λid B hB hf=>?_⟩,λid t=>l t⟩
 ·rcases hE y with hE | hE
  ·rw [hE];split
   ·rename_i v hv; exact e2 y v hv
   ·cases hy:alk c.e0 y with
    | none=>exact .un _
    | some v=>
     simp only [jby];have:=R.env y;rw [R.e0_tlk hy] at this;exact this.congr (λid t=>⟨(l (kbT hy t)).1,(l (kbT hy t)).2,jao (hc id (kbT hy t)) hN⟩) (hz_z R.zin)
  ·rw [hE]; exact .un _
 ·rcases hH id B hB with hB | hB
  ·obtain ⟨q,u,D,I,U⟩:=J hB; exact U
  ·exact (R.blk id B (R.g_thp hB)).congr (l (has_g hB)) (λi t=>⟨(l (kno hB t)).1,(l (kno hB t)).2,jao (hc i (kno hB t)) hN⟩) (hz_z R.zin)
 ·rcases hH id B hB with hB | hB
  ·obtain ⟨q,u,D,I,U⟩:=J hB; exact jao (aj _ (kaq D)) hN
  ·exact jao (hc id (has_g hB)) hN
 ·rcases hH i B t with t | t
  ·obtain ⟨qi,Bi,D,I,U⟩:=J t;rw [(C D).1] at ki;rcases hH j B' F with F | F
   ·obtain ⟨qj,Bj,k2,k3,k4⟩:=J F;rw [(C k2).1] at W;have:=R.inj qi qj _ _ q (kab I) (kab k3) ki W;subst this;exact X i j qi D k2
   ·rw [(l (has_g F)).1] at W;have:=R.inj qi j _ _ q (kab I) (R.g_thp F) ki W;subst this;have:=R.g _ _ I;rw [F] at this; cases this
  ·rw [(l (has_g t)).1] at ki;rcases hH j B' F with F | F
   ·obtain ⟨qj,Bj,k2,k3,k4⟩:=J F;rw [(C k2).1] at W;have:=R.inj i qj _ _ q (R.g_thp t) (kab k3) ki W;subst this;have:=R.g _ _ k3;rw [t] at this; cases this
   ·rw [(l (has_g F)).1] at W;exact R.inj i j _ _ q (R.g_thp t) (R.g_thp F) ki W
 ·rcases hH id B hB with hB | hB
  ·obtain ⟨q',u,D,I,U⟩:=J hB;rw [(C D).1] at M;exact ae (kab I) (.inl M) (al D)
  ·rw [(l (has_g hB)).1] at M;exact ae (R.g_thp hB) (.inl M) (ak hB)
 ·rcases hH id B hB with hB | hB
  ·obtain ⟨q',u,D,I,U⟩:=J hB;rw [(C D).1] at M;exact R.bnd q' u q (kab I) M
  ·rw [(l (has_g hB)).1] at M;exact R.bnd id B q (R.g_thp hB) M
 ·unfold hz at G;split at G
  ·rename_i S;obtain ⟨id,ad,aq⟩:=jbi.1 S;obtain ⟨B,hB⟩:=ah id ad;exact (R.blk id B (kab hB)).elenO (kbu (kab hB) (by simpa using aq)) G e he
  ·exact R.zk q k T es G e he
 ·
  have ac:∀ id B,thp c2 L id=some B->∃ i0 u,thp c s i0=some u/\B.isF=u.isF/\K id = κ i0/\f id=ln i0/\i0∉m.sn/\((alk m.ids id=some i0/\alk s.hp i0=some (some u))\/(i0=id/\alk c.g id=some B)):=λid B hB=>by
   rcases hH id B hB with hB | hB
   ·obtain ⟨q,u,D,I,U,g5⟩:=Z hB;exact ⟨q,u,kab I,g5,(C D).1,(C D).2,al D,.inl ⟨D,I⟩⟩
   ·exact ⟨id,B,R.g_thp hB,rfl,(l (has_g hB)).1,(l (has_g hB)).2,ak hB,.inr ⟨rfl,hB⟩⟩
  obtain ⟨i0,u,a0,a1,a2,a3,a4,a5⟩:=ac id B hB;obtain ⟨g1,D⟩:=R.fam i0 u a0 (by rw [<-a1]; exact hf);rw [a3];refine ⟨g1,λr hr=>?_⟩;obtain ⟨k1,k2,k3,k4⟩:=D r hr;refine ⟨k1,?_,λj B' F=>?_,λj B' F ao af=>?_⟩
  ·exact ae a0 (.inr ⟨by rw [<-a1]; exact hf,hr⟩) a4
  ·obtain ⟨j0,B1,b0,b1,b2,b3,b4,b5⟩:=ac j B' F;rw [b2]; exact k3 j0 B1 b0
  ·obtain ⟨j0,B1,b0,b1,b2,b3,b4,b5⟩:=ac j B' F;rw [b3] at af;have:=k4 j0 B1 b0 (by rw [<-b1]; exact ao) af;subst this;rcases a5 with ⟨a5,a6⟩ | ⟨rfl,a6⟩
   ·rcases b5 with ⟨b5,b6⟩ | ⟨rfl,b6⟩
    ·exact X _ _ _ b5 a5
    ·have:=R.g _ _ a6; rw [b6] at this; cases this
   ·rcases b5 with ⟨b5,b6⟩ | ⟨rfl,b6⟩
    ·have:=R.g _ _ b6; rw [a6] at this; cases this
    ·rfl
end
section
variable {P:Ye} {κ κ':Nat->Yb Nat} {ln ln':Nat->Nat} {z z':AH} {c:Cx sem} {s:TS sem} {env:Env} {h h':AH} {n n' N N':Nat}
variable {w:World} {O:Nat->Prop} {μ:Mu} {p:Nat->Bool}
abbrev ahN:AH:=λ_=>none
theorem kss {b:Nat} (h:Av O (muP p μ) b):Av O μ b:=by
 rcases h with h | ⟨id,k,h⟩
 ·exact .inl h
 ·exact .inr ⟨id,k,(kax h).2⟩
theorem VR.freeP {a:AV} {v:Yd} (i:VR w O μ n a v) (f:Free a):VR w O (muP p μ) n a v:=
 (i.free f (O':=Av O (muP p μ)) λb e=>kss e).lift λb e=>e
theorem HR.part (hr:HR w O μ h n) (hz:∀ q B,z q=some B->h q=some B/\p q=false):HR w (Av O (muP p μ)) (muP (λi=>!p i) μ) z n:=by
 refine ⟨hr.olt.av (λb a=>?_),λid b k e=>hr.scope id b k (kax e).2,λid f b k l e e'=>hr.inj id f b k l (kax e).2 (kax e').2,λid b k e hO=>?_,λid B hB=>?_⟩
 ·rcases a with a | ⟨id,k,a⟩
  ·exact hr.olt b a
  ·exact (hr.scope id b k (kax a).2).2
 ·obtain ⟨m,j⟩:=kax e;rcases Or.symm hO with hO | hO | ⟨f,l,hO⟩
  ·exact hr.notO id b k j (.inr hO)
  ·exact hr.notO id b k j (.inl hO)
  ·obtain ⟨u,x⟩:=kax hO;rw [hr.inj _ _ _ _ _ j x] at m;simp [u] at m
 ·obtain ⟨t,h2⟩:=hz id B hB;exact (hr.blk id B t).mapV (by simp only [muP]; rw [if_pos (by simp [h2])]) λv=>v.splitP p
theorem VR.snapP (hr:HR w O μ h n) (hz:∀ q B,z q=some B->h q=some B/\p q=false) {a a':AV} {v:Yd} (i:Snap z a a') (e:VR w O μ n a v):VR w O (muP p μ) n a' v:=
 ((i.vr (hr.part hz)) (e.splitP p)).lift λb f=>f
theorem VR.ownP {a:AV} {v:Yd} (f:VR w O μ n a v) (l:(∃ q i j,a = .own q i j)\/(∃ q i j,a = .ms q i j)\/∃ q,a = .mp q):VR w O (muP p μ) n a v:=by
 rcases l with ⟨q,i,j,rfl⟩ | ⟨q,i,j,rfl⟩ | ⟨q,rfl⟩
 ·cases f with | own _ _ _ _ h h1 f=>exact .own _ _ _ _ h h1 λb k e=>f b k (kax e).2
 ·cases f with | ms _ _ _ _ h h1 f=>exact .ms _ _ _ _ h h1 λb k e=>f b k (kax e).2
 ·cases f with | mp _ _ h h1 f=>exact .mp _ _ h h1 λb k e=>f b k (kax e).2
mutual
theorem koQ (hr:HR w O μ h n) (hz:∀ q B,z q=some B->h q=some B/\p q=false):∀ {L:TV sem} {a:AV},TVR P κ ln z N L a->∀ v,VR w O μ n a v->∃ a',TVR P κ ln ahN N L a'/\(a.one=true->a'.one=true)/\VR w O (muP p μ) n a' v
 | _,_,.un a,v,hv=>by
  cases f:a.one with
  | true=>exact ⟨.sc v,.un _,λ_=>hv.one f,.sc v (hv.one f)⟩
  | false=>exact ⟨.un,.un _,λh=>(by cases h),.un v⟩
 | _,_,.ud,v,hv=>⟨.ud,.ud,λh=>h,hv.freeP .ud⟩
 | _,_,.gs t l,v,hv=>⟨_,.gs t l,λh=>h,by cases hv; exact .gs _⟩
 | _,_,.yl id q hi h,v,hv=>⟨_,.yl id q hi h,λh=>h,hv.freeP (.sc _)⟩
 | _,_,.kp id hi,v,hv=>⟨.un,.kp id hi,λh=>h,.un v⟩
 | _,_,.np0 id hi,v,hv=>⟨_,.np0 id hi,λh=>h,hv.freeP (.sc _)⟩
 | _,_,.np id q hi h,v,hv=>⟨_,.np id q hi h,λh=>h,hv.ownP (.inl ⟨_,_,_,rfl⟩)⟩
 | _,_,.c t x a hd hs,v,hv=>⟨t.av x,.free hd,(λf=>hs.one f),VR.snapP hr hz hs hv⟩
 | _,_,.kb b,v,hv=>⟨_,.kb b,λh=>h,hv.freeP (.sc _)⟩
 | _,_,.sc u f,v,hv=>⟨_,.sc u f,λh=>h,hv.freeP (.sc _)⟩
 | _,_,.ptr id j q hN hq,v,hv=>⟨_,.ptr id j q hN hq,λh=>h,hv.ownP (.inl ⟨_,_,_,rfl⟩)⟩
 | _,_,.adr id i j q hN hq h0 f,v,hv=>⟨_,.adr id i j q hN hq h0 f,λh=>h,hv.ownP (.inl ⟨_,_,_,rfl⟩)⟩
 | _,_,.aa id i q hN hq h0 f,v,hv=>⟨_,.aa id i q hN hq h0 f,λh=>h,hv.ownP (.inl ⟨_,_,_,rfl⟩)⟩
 | _,_,.ax id i k q hN hq h0 f hk,v,hv=>⟨_,.ax id i k q hN hq h0 f hk,λh=>h,hv.ownP (.inl ⟨_,_,_,rfl⟩)⟩
 | _,_,.fq t x o a hd hs,v,hv=>⟨.fp ((t.enc x).drop o),.fq t x o _ hd (.free _ ((kih _).2 λc G=>kaV t x hd c (jcy G))),λ_=>rfl,VR.snapP hr hz hs hv⟩
 | _,_,.mw0 id hN hq,v,hv=>⟨_,.mw0 id hN hq,λh=>h,hv.freeP (.sc _)⟩
 | _,_,.mw id q hN hq,v,hv=>⟨_,.mw id q hN hq,λh=>h,hv.ownP (.inr (.inl ⟨_,_,_,rfl⟩))⟩
 | _,_,.ms0 id off len hN hq ho hl,v,hv=>⟨_,.ms0 id off len hN hq ho hl,λh=>h,hv.freeP (.sc _)⟩
 | _,_,.ms id off len q hN hq h0 f h2,v,hv=>⟨_,.ms id off len q hN hq h0 f h2,λh=>h,hv.ownP (.inr (.inl ⟨_,_,_,rfl⟩))⟩
 | _,_,.mp id q hN hq,v,hv=>⟨_,.mp id q hN hq,λh=>h,hv.ownP (.inr (.inr ⟨_,rfl⟩))⟩
 | _,_,.fw0 id hN hq,v,hv=>⟨_,.fw0 id hN hq,λh=>h,hv.freeP (.sc _)⟩
 | _,_,.fw id q hN hq,v,hv=>⟨_,.fw id q hN hq,λh=>h,hv.ownP (.inr (.inl ⟨_,_,_,rfl⟩))⟩
 | _,_,.fr0 id i m hN h0 hq,v,hv=>⟨_,.fr0 id i m hN h0 hq,λh=>h,hv.freeP (.sc _)⟩
 | _,_,.fr id i r m hN h0 hq,v,hv=>⟨_,.fr id i r m hN h0 hq,λh=>h,hv.ownP (.inr (.inl ⟨_,_,_,rfl⟩))⟩
 | _,_,.fo id i j q hN hq h0 f,v,hv=>⟨_,.fo id i j q hN hq h0 f,λh=>h,hv.ownP (.inl ⟨_,_,_,rfl⟩)⟩
 | _,_,.fa id i k o r m hN h0 hq hk hm,v,hv=>⟨_,.fa id i k o r m hN h0 hq hk hm,λh=>h,hv.ownP (.inl ⟨_,_,_,rfl⟩)⟩
 | _,_,.fn g vs asZ hs,v,hv=>by
  cases hv with
  | fn _ _ D us I G C=>
   obtain ⟨e,f,h2,K,H⟩:=kff hr hz hs us C;refine ⟨.fn g e,.fn g vs e f,λh=>h,.fn g e D us (by omega) (λj c E=>?_) H⟩;obtain ⟨J,A⟩:=kaf h2 E;exact G j J A
 | _,_,.cv m x y F a hcv,v,hv=>⟨a,.cv m x y F a hcv,λh=>h,hv.freeP (by obtain ⟨g,asZ,rfl,M,_⟩:=hcv; exact (kfa _ _).2 M)⟩
 | _,_,.tp vs asZ hs,v,hv=>by
  cases hv with
  | tp _ D us I G C=>
   obtain ⟨e,f,h2,K,H⟩:=kff hr hz hs us C;refine ⟨.tp e,.tp vs e f,λh=>h,.tp e D us (by omega) (λj c E=>?_) H⟩;obtain ⟨J,A⟩:=kaf h2 E;exact G j J A
 | _,_,.ag vs asZ hs hone,v,hv=>by
  cases hv with
  | ag _ D us I G Q C=>
   obtain ⟨e,f,h2,K,H⟩:=kff hr hz hs us C;refine ⟨.ag e,.ag vs e f (K hone),λh=>h,.ag e D us (by omega) (λj c E=>?_) (λj c E=>K hone c (jai E)) H⟩;obtain ⟨J,A⟩:=kaf h2 E;exact G j J A
theorem kff (hr:HR w O μ h n) (hz:∀ q B,z q=some B->h q=some B/\p q=false):∀ {vs:Ya (TV sem)} {asZ:Ya AV},TVRs P κ ln z N vs asZ->∀ us:Nat->Yd,(∀ (j:Nat) (c:AV),asZ[j]?=some c->VR w O μ n c (us j))->
  ∃ e,TVRs P κ ln ahN N vs e/\e.length=asZ.length/\((∀ a∈asZ,a.one=true)->∀ a∈e,a.one=true)/\∀ (j:Nat) (c:AV),e[j]?=some c->VR w O (muP p μ) n c (us j)
 | _,_,.nil,us,_=>⟨[],.nil,rfl,λ_ a h=>(by cases h),λj a h=>by simp at h⟩
 | _,_,.cons v a vs asZ hv hs,us,hus=>by
  obtain ⟨a',m,h2,y⟩:=koQ hr hz hv (us 0) (hus 0 a rfl);obtain ⟨e,u,l,C,t⟩:=kff hr hz hs (λj=>us (j+1)) (λj c i=>hus (j+1) c (by simpa using i));refine ⟨a'::e,.cons _ _ _ _ m u,by simp [l],λf b k=>?_,λj b i=>?_⟩
  ·rcases jbu.1 k with rfl | k
   ·exact h2 (f a (by simp))
   ·exact C (λx A=>f x (by simp [A])) b k
  ·cases j with
   | zero=>simp at i; subst i; exact y
   | succ j=>exact t j b (by simpa using i)
end
theorem kgI (hr:HR w O μ h n) (hz:∀ q B,z q=some B->h q=some B/\p q=false) {cs b:Ya AV} (k:SnapL z cs b):∀ (j:Nat) (a a':AV),cs[j]?=some a->b[j]?=some a'->∀ v,VR w O μ n a v->VR w O (muP p μ) n a' v:=
 λj a a' f e v i=>VR.snapP hr hz (k.at j a a' f e) i
theorem kpT (hr:HR w O μ h n) (hz:∀ q B,z q=some B->h q=some B/\p q=false) {id q:Nat} {B:TB sem} (U:B.isF=false) (hb:BR P κ ln z h N id B) (E:κ id=some q) (hp:p q=true) :
  ∃ B2,(∀ h2:AH,h2 q=some B2->BR P κ ln ahN h2 N id B)/\BlkAt w O (muP p μ) n q B2:=by
 have F:muP p μ q = μ q:=by simp [muP,hp]
 cases hb with
 | bx T vs q' asZ m J Q h1=>
  rw [E] at m; cases m;obtain ⟨b,L,K,I,M⟩:=hr.blk q _ J;have W:∀ (j:Nat) (c:AV),asZ[j]?=some c->L[0*vs.length+j]?=some ((L[0*vs.length+j]?).getD undef)/\VR w O μ n c ((L[0*vs.length+j]?).getD undef):=λj c C=>by
   obtain ⟨l1,u,Y,X⟩:=(M 0 asZ rfl).2 j c C;rw [Y]; exact ⟨rfl,X⟩
  obtain ⟨R,g1,Z,g3,g4⟩:=kff hr hz Q _ (λj c C=>(W j c C).2);refine ⟨.cells vs.length T [R],λh2 f=>.bx T vs q R E f g1 (g3 h1),?_⟩;refine ⟨b,L,F.trans K,I,λi e D=>?_⟩;cases i with
  | zero=>
   simp at D; subst D;obtain ⟨k1,k2⟩:=M 0 asZ rfl;refine ⟨by rw [Z]; exact k1,λj a C=>?_⟩;obtain ⟨a0,A⟩:=kaf Z C;exact ⟨g3 h1 a (jai C),_,(W j a0 A).1,g4 j a C⟩
  | succ i=>simp at D
 | el T t x q' cs G m J Q h1 hl=>
  rw [E] at m; cases m;refine ⟨.cells t.wd T [t.enc x],λh2 f=>.el T t x q (t.enc x) G E f (SnapL.free (kaV t x G)) (kaF t x G) hl,?_⟩;obtain ⟨b,L,K,I,M⟩:=hr.blk q _ J;refine ⟨b,L,F.trans K,I,λi e D=>?_⟩;cases i with
  | zero=>
   simp at D; subst D;obtain ⟨k1,k2⟩:=M 0 cs rfl;refine ⟨kae t x G,λj a C=>?_⟩;obtain ⟨a0,A⟩:=kaf Q.len C;obtain ⟨l1,u,Y,X⟩:=k2 j a0 A;exact ⟨kaF t x G a (jai C),u,Y,kgI hr hz Q j a0 a A C u X⟩
  | succ i=>simp at D
 | sl0 T t l G m hl hn=>rw [E] at m; cases m
 | sl T t l q' es G m J Q h1 hn=>
  rw [E] at m; cases m;have hf:∀ e∈l.map t.enc,FreeL e:=λe he=>by obtain ⟨y,_,rfl⟩:=jaz.1 he; exact kaV t y G
  refine ⟨.cells t.wd T (l.map t.enc),λh2 f=>.sl T t l q _ G E f (SnapE.free hf) (λe he=>by obtain ⟨y,_,rfl⟩:=jaz.1 he; exact kaF t y G) hn,?_⟩;obtain ⟨b,L,K,I,M⟩:=hr.blk q _ J;refine ⟨b,L,F.trans K,I,λi e D=>?_⟩;obtain ⟨e0,S⟩:=kaf Q.1 D;have H:=Q.2 i e0 e S D;obtain ⟨k1,k2⟩:=M i e0 S;refine ⟨by rw [H.len]; exact k1,λj a C=>?_⟩;obtain ⟨a0,A⟩:=kaf H.len C;obtain ⟨l1,u,Y,X⟩:=k2 j a0 A;exact ⟨(H.at j a0 a A C).one l1,u,Y,kgI hr hz H j a0 a A C u X⟩
 | mp k v l q' aa hf m J=>
  rw [E] at m; cases m;refine ⟨_,λh2 f=>.mp k v l q aa hf E f,?_⟩;obtain ⟨b,es,K,I,M,e4⟩:=hr.blk q _ J;refine ⟨b,es,F.trans K,I,M,λi x D=>?_⟩;obtain ⟨e,g1,Z,g3,g4,g5⟩:=e4 i x D;refine ⟨e,g1,Z,g3,g4,g5.freeP ?_⟩;obtain ⟨y,_,rfl⟩:=jaz.1 (jai D);exact keV v y.2 (kbs hf)
 | si x q m h0 J=>
  rw [E] at m; cases m;obtain ⟨b,K,I⟩:=hr.blk q _ J;exact ⟨_,λh2 f=>.si x q E h0 f,⟨b,F.trans K,I⟩⟩
 | fm0=>cases U
 | fm=>cases U
theorem knP (es:Ya (Ya AV)) (Q:Nat->Nat->AV->Prop) (l:∀ (i:Nat) (e:Ya AV) (j:Nat) (a:AV),es[i]?=some e->e[j]?=some a->∃ a',Q i j a') :
  ∃ es':Ya (Ya AV),es'.length=es.length/\∀ (i:Nat) (e':Ya AV),es'[i]?=some e'->∃ e,es[i]?=some e/\e'.length=e.length/\∀ (j:Nat) (a':AV),e'[j]?=some a'->Q i j a':=by
 classical
 let f:Nat->Nat->AV->AV:=λi j a=>if h:∃ a',Q i j a' then Classical.choose h else a
 refine ⟨es.mapIdx λi e=>e.mapIdx (f i),by simp,λi e' m=>?_⟩;rw [List.getElem?_mapIdx] at m;obtain ⟨e,b,rfl⟩:=jab.1 m;refine ⟨e,b,by simp,λj a' t=>?_⟩;rw [List.getElem?_mapIdx] at t;obtain ⟨a,k,rfl⟩:=jab.1 t;have u:=l i e j a b k;simp only [f,dif_pos u];exact Classical.choose_spec u
theorem koh {x:Nat} (a:(kam x).Nodup) {i j r m t:Nat} (b:(kad x)[i]?=some (some r,m)) (e:(kad x)[j]?=some (some r,t)):i=j:=by
 unfold kam at a;generalize kad x=l at a b e;induction l generalizing i j with
 | nil=>simp at b
 | cons y l u=>
  rw [jcq] at a;have f:∀ {k m:Nat},l[k]?=some (some r,m)->r∈l.filterMap (·.1):=λh=>jcd.2 ⟨_,jai h,rfl⟩;cases i with
  | zero=>
   cases j with
   | zero=>rfl
   | succ j=>
    simp at b e; subst b;simp only [jda] at a;exact absurd (f e) a.1
  | succ i=>
   cases j with
   | zero=>
    simp at b e; subst e;simp only [jda] at a;exact absurd (f b) a.1
   | succ j=>
    simp at b e;rw [u (by split at a; exact a; exact (jda.1 a).2) b e]
theorem krs (hr:HR w O μ h n) (hz:∀ q B,z q=some B->h q=some B/\p q=false) {id:Nat} {B:TB sem} (hb:BR P κ ln z h N id B) (hp:∀ q,Ow κ ln id B q->p q=true) (ai:B.isF=true->(kam (ln id)).Nodup/\∀ r∈kam (ln id),κ id≠some r) :
  ∃ f:Nat->ABlk,(∀ h2:AH,(∀ q,Ow κ ln id B q->h2 q=some (f q))->BR P κ ln ahN h2 N id B)/\∀ q,Ow κ ln id B q->BlkAt w O (muP p μ) n q (f q):=by
 cases E:B.isF with
 | false=>
  have ow:∀ q,Ow κ ln id B q->κ id=some q:=λq A=>by
   rcases A with A | ⟨hf,_⟩
   ·exact A
   ·rw [E] at hf; cases hf
  cases J:κ id with
  | none=>
   refine ⟨λ_=>.map [],λh2 _=>?_,λq A=>by have:=ow q A; rw [J] at this; cases this⟩;cases hb with
   | bx _ _ q asZ A=>rw [J] at A; cases A
   | el _ _ _ q cs Z A=>rw [J] at A; cases A
   | sl0 T t l Z A hl hn=>exact .sl0 T t l Z A hl hn
   | sl _ _ _ q cs Z A=>rw [J] at A; cases A
   | mp _ _ _ q _ _ A=>rw [J] at A; cases A
   | si _ q A=>rw [J] at A; cases A
   | fm0=>cases E
   | fm=>cases E
  | some q=>
   obtain ⟨B2,g1,g2⟩:=kpT hr hz E hb J (hp q (.inl J));exact ⟨λ_=>B2,λh2 hh=>g1 h2 (hh q (.inl J)),λq' C=>by have:=ow q' C; rw [J] at this; cases this; exact g2⟩
 | true=>
  obtain ⟨aw,aq⟩:=ai E;cases hb with
  | bx=>cases E
  | el=>cases E
  | sl0=>cases E
  | sl=>cases E
  | mp=>cases E
  | si=>cases E
  | fm0 T t j U u l ho Z A hl hn=>
   refine ⟨λ_=>.map [],λh2 _=>.fm0 T t j U u l ho Z A hl hn,λq C=>?_⟩;rcases C with C | ⟨_,D⟩
   ·rw [A] at C; cases C
   ·unfold kam at D; rw [hn,show kad 0=[] from rfl] at D; cases D
  | fm T t j U u l ho q es Z A hh hn hl hv h0 h1=>
   have hb:BR P κ ln z h N id (.fm T t j U u l ho):=.fm T t j U u l ho q es Z A hh hn hl hv h0 h1;obtain ⟨b,cc,e1,e2,e3⟩:=hr.blk q _ hh;let Q:Nat->Nat->AV->Prop:=λi G a'=>a'.one=true/\(ho≠some (i:Int)->∀ x,l[i]?=some x->(G≠j->(t.enc x)[G]?=some a')/\(G=j->∀ e,es[i]?=some e->e[j]?=some a'))/\∃ v,cc[i*t.wd+G]?=some v/\VR w O (muP p μ) n a' v
   have ax:∀ (i:Nat) (e:Ya AV) (G:Nat) (a:AV),es[i]?=some e->e[G]?=some a->∃ a',Q i G a':=λi e G a X F=>by
    obtain ⟨k1,k2⟩:=e3 i e X;obtain ⟨l1,v,l2,l3⟩:=k2 G a F;by_cases K:ho=some (i:Int)
    ·exact ⟨.sc v,l3.one l1,λhc=>absurd K hc,v,l2,.sc v (l3.one l1)⟩
    ·have ay:=(jae.1 X).1;have hx:l[i]?=some (l[i]'(by omega)):=jad _;have W:(kad (ln id))[i]?=some ((kad (ln id))[i]'(by omega)):=jad _;obtain ⟨g1,g2,ys,g3,g4,g5⟩:=hv i _ e _ hx X W K;by_cases M:G=j
     ·subst M;refine ⟨a,l1,λ_ x ad=>⟨λhc=>absurd rfl hc,λ_ e' I=>?_⟩,v,l2,?_⟩
      ·rw [X] at I; cases I; exact F
      ·generalize (kad (ln id))[i]'(by omega)=rm at g5;obtain ⟨r,m⟩:=rm;cases r with
       | none=>obtain ⟨g6,_⟩:=g5; rw [F] at g6; cases g6; exact l3.freeP (.sc _)
       | some r=>obtain ⟨g6,_⟩:=g5; rw [F] at g6; cases g6; exact l3.ownP (.inr (.inl ⟨_,_,_,rfl⟩))
     ·obtain ⟨a',H⟩:=kaf (l:=t.enc (l[i]'(by omega))) (l':=e) g1 F;refine ⟨a',(g2 G a a' M F H).one l1,λ_ x ad=>⟨λ_=>?_,λhc=>absurd hc M⟩,v,l2,VR.snapP hr hz (g2 G a a' M F H) l3⟩;rw [hx] at ad; cases ad; exact H
   obtain ⟨es',c1,c2⟩:=knP es Q ax;let Y:Nat->Ya (Ya AV)->Prop:=λr ys=>∃ (i m:Nat) (x:t.den),(kad (ln id))[i]?=some (some r,m)/\l[i]?=some x/\(t.enc x)[j]?=some (.sl ys)
   have hY:∀ r∈kam (ln id),∃ ys,Y r ys:=λr D=>by
    obtain ⟨i,m,x,e,a1,a2,a3,a4,a5,ys,a6,a7⟩:=hb.row D;exact ⟨ys,i,m,x,a1,a2,a6⟩
   have hYu:∀ r ys ae,Y r ys->Y r ae->ys=ae:=λr ys ae ⟨i,m,x,a1,a2,a3⟩ ⟨i',m',x',b1,b2,b3⟩=>by
    have:=koh aw a1 b1;subst this;rw [a2] at b2; cases b2;rw [a3] at b3; cases b3; rfl
   classical
   let f:Nat->ABlk:=λr=>if r=q then .cells t.wd T es' else if S:∃ ys,Y r ys then .cells u.wd U (Classical.choose S) else .map []
   have fq:f q = .cells t.wd T es':=if_pos rfl;have fr:∀ {r:Nat} {ys:Ya (Ya AV)},r∈kam (ln id)->Y r ys->f r = .cells u.wd U ys:=λ{r ys} D S=>by
    have au:r≠q:=λe=>aq r D (by rw [e]; exact A);have ap:∃ ys,Y r ys:=⟨ys,S⟩;simp only [f,if_neg au,dif_pos ap];rw [hYu r _ _ (Classical.choose_spec ap) S]
   have rowE:∀ {i:Nat} {x:t.den} {ys ws:Ya (Ya AV)},l[i]?=some x->(t.enc x)[j]?=some (.sl ys)->SnapE z ws ys->(∀ y∈ws,y.length=u.wd/\∀ a∈y,a.one=true)->(∀ y∈ys,FreeL y)/\∀ y∈ys,y.length=u.wd/\∀ a∈y,a.one=true:=λ{i x ys ws} hx hj hs ho=>by
    have aa:Free (.sl ys):=kaV t x Z _ (jai hj);refine ⟨λy S=>(kif ys).1 aa y S,λy S=>?_⟩;obtain ⟨k,J⟩:=jcx S;obtain ⟨w0,al⟩:=kaf hs.1 J;have ac:=hs.2 k w0 y al J;obtain ⟨o1,o2⟩:=ho w0 (jai al);refine ⟨by rw [ac.len]; exact o1,λa F=>?_⟩;obtain ⟨k',ah⟩:=jcx F;obtain ⟨a0,R⟩:=kaf ac.len ah;exact (ac.at k' a0 a R ah).one (o2 a0 (jai R))
   refine ⟨f,λh2 ak=>?_,λq' C=>?_⟩
   ·have ab:=ak q (.inl A);rw [fq] at ab;refine .fm T t j U u l ho q es' Z A ab hn (by rw [c1,hl]) (λi x e' rm hx I W K=>?_) h0 (λe' I=>?_)
    ·obtain ⟨e,X,L,hQ⟩:=c2 i e' I;obtain ⟨g1,g2,ys,g3,g4,g5⟩:=hv i x e rm hx X W K;refine ⟨by rw [L,g1],λG a a' M F H=>?_,ys,g3,g4,?_⟩
     ·have:=((hQ G a F).2.1 K x hx).1 M;rw [this] at H; cases H;exact .free _ (kaV t x Z _ (jai this))
     ·have an:∀ {a:AV},e[j]?=some a->e'[j]?=some a:=λ{a} F=>by
       obtain ⟨a',H⟩:=kaf L.symm F;have:=((hQ j a' H).2.1 K x hx).2 rfl e X;rw [this] at F; cases F; exact H
      obtain ⟨r,m⟩:=rm;cases r with
      | none=>exact ⟨an g5.1,g5.2⟩
      | some r=>
       obtain ⟨g6,ws,g7,g8,g9⟩:=g5;have D:=kas W;have aa:=ak r (.inr ⟨rfl,D⟩);rw [fr D ⟨i,m,x,W,hx,g3⟩] at aa;obtain ⟨k1,k2⟩:=rowE hx g3 g8 g9;exact ⟨an g6,ys,aa,SnapE.free k1,k2⟩
    ·obtain ⟨i,hi⟩:=jcx I;obtain ⟨e,X,L,hQ⟩:=c2 i e' hi;refine ⟨by rw [L]; exact (h1 e (jai X)).1,λa F=>?_⟩;obtain ⟨G,ar⟩:=jcx F;exact (hQ G a ar).1
   ·have ao:muP p μ q' = μ q':=by simp [muP,hp q' C]
    by_cases aj:q'=q
    ·subst aj;rw [fq];refine ⟨b,cc,ao.trans e1,e2,λi e' I=>?_⟩;obtain ⟨e,X,L,hQ⟩:=c2 i e' I;refine ⟨by rw [L]; exact (h1 e (jai X)).1,λG a F=>?_⟩;obtain ⟨o1,_,v,o2,o3⟩:=hQ G a F;exact ⟨o1,v,o2,o3⟩
    ·have D:q'∈kam (ln id):=by
      rcases C with C | ⟨_,C⟩
      ·rw [A] at C; cases C; exact absurd rfl aj
      ·exact C
     obtain ⟨i,m,x,e,a1,a2,a3,a4,a5,ys,a6,a7,g6,ws,g7,g8,g9⟩:=hb.row D;rw [fr D ⟨i,m,x,a1,a2,a6⟩];obtain ⟨k1,k2⟩:=rowE a2 a6 g8 g9;obtain ⟨b,cc,e1,e2,e3⟩:=hr.blk q' _ g7;refine ⟨b,cc,ao.trans e1,e2,λi y S=>?_⟩;obtain ⟨y0,am⟩:=kaf g8.1 S;have af:=g8.2 i y0 y am S;obtain ⟨k3,k4⟩:=e3 i y0 am;refine ⟨(k2 y (jai S)).1,λG a F=>?_⟩;obtain ⟨a0,R⟩:=kaf af.len F;obtain ⟨l1,v,l2,l3⟩:=k4 G a0 R;exact ⟨(af.at G a0 a R F).one l1,v,l2,kgI hr hz af G a0 a R F v l3⟩
end
end Go.Abs
