/- The machinery, part 4. -/
import Derived.Test.YtnehmnlcliflfaaDoorZ3
set_option linter.constructorNameAsVariable false
set_option linter.unusedVariables false
set_option linter.unusedSimpArgs false
set_option linter.unusedSectionVars false
namespace Go.Abs
open Go Go.RowKit
def updK {α:Type} (f:Nat->α) (i:Nat) (x:α):Nat->α:=λj=>if j=i then x else f j
theorem updK_self {α:Type} {f:Nat->α} {i:Nat} {x:α}:updK f i x i=x:=by simp [updK]
theorem kao {α:Type} {f:Nat->α} {i:Nat} {x:α} {j:Nat} (h:j<i):updK f i x j=f j:=by unfold updK; rw [if_neg (by omega)]
section
variable {P:Ye} {κ κ':Nat->Yb Nat} {ln ln':Nat->Nat} {z z':AH} {c:Cx sem} {s:TS sem} {env:Env} {h h':AH} {n n' N N':Nat}
theorem FamOk.map {t:Cx sem} {s':TS sem} (F:FamOk κ ln z c s n) (v:∀ id B,thp t s' id=some B->(∃ i,thp c s id=some i/\(B.isF=true->i.isF=true)/\κ' id = κ id/\ln' id=ln id)\/(B.isF=false/\∀ q,κ' id=some q->n<=q)) (hz:∀ id b B r,thp t s' id=some b->thp c s id=some B->B.isF=true->r∈kan (ln id)->z' r=none) (hn:n<=n'):FamOk κ' ln' z' t s' n':=by
 intro id B hB m;rcases v id B hB with ⟨i,l,y,h2,C⟩ | ⟨l,_⟩
 ·obtain ⟨g1,A⟩:=F id i l (y m);rw [C];refine ⟨g1,λr hr=>?_⟩;obtain ⟨k1,k2,k3,D⟩:=A r hr;refine ⟨by omega,hz id B i r hB l (y m) hr,λj b x=>?_,λj b x a f=>?_⟩
  ·rcases v j b x with ⟨u,a0,k,a2,a3⟩ | ⟨a0,k⟩
   ·rw [a2]; exact k3 j u a0
   ·intro e; have:=k r e; omega
  ·rcases v j b x with ⟨u,a0,k,a2,a3⟩ | ⟨a0,k⟩
   ·rw [a3] at f; exact D j u a0 (k a) f
   ·rw [a0] at a; cases a
 ·rw [l] at m; cases m
theorem BR.mono (y:∀ id,id<N->κ' id = κ id) (b:∀ id,id<N->ln' id=ln id) (hz:∀ q B,z q=some B->z' q=some B) (hN:N<=N') {id:Nat} {B:TB sem} (f:id<N) (C:∀ q AB,Ow κ ln id B q->h q=some AB->h' q=some AB) (J:BR P κ ln z h N id B):BR P κ' ln' z' h' N' id B:=by
 cases J with
 | bx T vs q asZ a hB E D=>exact .bx T vs q asZ (by rw [y id f]; exact a) (C q _ (.inl a) hB) (E.mono y b hz hN) D
 | el T t x q cs A a hB E D hl=>exact .el T t x q cs A (by rw [y id f]; exact a) (C q _ (.inl a) hB) (E.mono hz) D (by rw [b id f]; exact hl)
 | sl0 T t l A a hl hn=>exact .sl0 T t l A (by rw [y id f]; exact a) hl (by rw [b id f]; exact hn)
 | sl T t l q es A a hB E D hn=>exact .sl T t l q es A (by rw [y id f]; exact a) (C q _ (.inl a) hB) (E.mono hz) D (by rw [b id f]; exact hn)
 | mp k v l q K M a hB=>exact .mp k v l q K M (by rw [y id f]; exact a) (C q _ (.inl a) hB)
 | si x q a F hB=>exact .si x q (by rw [y id f]; exact a) F (C q _ (.inl a) hB)
 | km l q a hB=>exact .km l q (by rw [y id f]; exact a) (C q _ (.inl a) hB)
 | fm0 T t j U u l H A a hl hn=>exact .fm0 T t j U u l H A (by rw [y id f]; exact a) hl (by rw [b id f]; exact hn)
 | fm T t j U u l H q es A a hB hn hl E F D=>
  refine .fm T t j U u l H q es A (by rw [y id f]; exact a) (C q _ (.inl a) hB) (by rw [b id f]; exact hn) hl (λi x e I h2 Q G L=>?_) (by rw [b id f]; exact F.mono hz) D;rw [b id f] at G;refine (E i x e I h2 Q G L).mono hz λr B hr hB=>C r B (.inr ⟨rfl,?_⟩) hB;obtain ⟨r',m⟩:=I;simp only at hr; subst hr;exact kav G
theorem BR.elen {id q:Nat} {B:TB sem} (I:BR P κ ln z h N id B) (b:κ id=some q) {k:Nat} {T:Yc} {es:Ya (Ya AV)} (f:h q=some (.cells k T es)):∀ e∈es,e.length=k:=by
 intro e A;cases I with
 | bx T vs C asZ a hB m E=>
  rw [b] at a; cases a; rw [f] at hB; cases hB;simp at A; subst A; exact m.len
 | el T t x C cs y a hB m E hl=>
  rw [b] at a; cases a; rw [f] at hB; cases hB;simp at A; subst A; rw [<-m.len,kaf t x y]
 | sl0 T t l y a hl hn=>rw [b] at a; cases a
 | sl T t l C es' y a hB m E hn=>
  rw [b] at a; cases a; rw [f] at hB; cases hB;obtain ⟨i,F⟩:=jde A;have G:=(jae.1 F).1;have D:=m.1;rw [jbb] at D;have:=(m.2 i e _ F (by rw [jas,jaf (by omega)]; rfl)).len;rw [kaf t _ y] at this; exact this.symm
 | mp L v l C J M a hB=>rw [b] at a; cases a; rw [f] at hB; cases hB
 | si x C a H hB=>rw [b] at a; cases a; rw [f] at hB; cases hB
 | km l C a hB=>rw [b] at a; cases a; rw [f] at hB; cases hB
 | fm0 T t j U u l K y a=>rw [b] at a; cases a
 | fm T t j U u l K C es' y a hB hn hl m H E=>
  rw [b] at a; cases a; rw [f] at hB; cases hB;exact (E e A).1
theorem BR.row {id r:Nat} {T:Yc} {t:Ty} {j:Nat} {U:Yc} {u:Ty} {l:Ya t.den} {f:Yb Int} (C:BR P κ ln z h N id (.fm T t j U u l f)) (hr:r∈kan (ln id)) :
  ∃ (i m:Nat) (x:t.den) (e:Ya AV),(kac (ln id))[i]?=some (some r,m)/\l[i]?=some x/\f≠some (i:Int)/\FamE z h j U u.wd (t.enc x) e (some r,m):=by
 obtain ⟨⟨r',m⟩,E,v⟩:=jcn.1 hr;simp only at v; subst v;obtain ⟨i,a⟩:=jde E;cases C with
 | fm0 _ _ _ _ _ _ _ y D hl hn=>rw [hn,show kac 0=[] from rfl] at a; simp at a
 | fm _ _ _ _ _ _ _ q es y D hB hn hl G B H=>
  have A:=(jae.1 a).1;have k:l[i]?=some (l[i]'(by omega)):=jaf _;have F:es[i]?=some (es[i]'(by omega)):=jaf _;have b:f≠some (i:Int):=λe=>by have:=B.1 i _ e a; cases this
  exact ⟨i,m,_,_,a,k,b,G i _ _ _ k F a b⟩
theorem BR.live {id q:Nat} {B:TB sem} (t:BR P κ ln z h N id B) (j:Ow κ ln id B q):h q≠none:=by
 intro b;rcases j with j | ⟨u,hr⟩
 ·cases t with
  | bx _ _ k asZ a f=>rw [j] at a; cases a; rw [f] at b; cases b
  | el _ _ _ k cs l a f=>rw [j] at a; cases a; rw [f] at b; cases b
  | sl0 _ _ _ _ a=>rw [j] at a; cases a
  | sl _ _ _ k cs l a f=>rw [j] at a; cases a; rw [f] at b; cases b
  | mp _ _ _ k _ _ a f=>rw [j] at a; cases a; rw [f] at b; cases b
  | si _ k a _ f=>rw [j] at a; cases a; rw [f] at b; cases b
  | km _ k a f=>rw [j] at a; cases a; rw [f] at b; cases b
  | fm0 _ _ _ _ _ _ _ _ a=>rw [j] at a; cases a
  | fm _ _ _ _ _ _ _ k es l a f=>rw [j] at a; cases a; rw [f] at b; cases b
 ·cases B <;> simp only [TB.isF,jal] at u;obtain ⟨i,m,x,e,g1,A,E,_,_,ys,_,_,D,es',v,y,C⟩:=t.row hr;rw [v] at b; cases b
theorem BR.elenO {id q:Nat} {B:TB sem} (f:BR P κ ln z h N id B) (a:Ow κ ln id B q) {k:Nat} {T:Yc} {es:Ya (Ya AV)} (b:h q=some (.cells k T es)):∀ e∈es,e.length=k:=by
 rcases a with a | ⟨l,hr⟩
 ·exact f.elen a b
 ·cases B <;> simp only [TB.isF,jal] at l;obtain ⟨i,m,x,e,g1,y,C,_,_,ys,_,_,A,es',t,v,j⟩:=f.row hr;rw [t] at b; cases b;exact λe u=>(j e u).1
theorem kaO {b:Yb (TB sem)} {i id:Nat}:thp c { s with hp:=(i,b)::s.hp } id=if id=i then b else thp c s id:=by
 by_cases h:id=i <;> simp [thp,alk,h]
theorem thp_n {b:Yb (TB sem)} {i id N:Nat}:thp c { s with hp:=(i,b)::s.hp,n:=N } id=if id=i then b else thp c s id:=by
 by_cases h:id=i <;> simp [thp,alk,h]
theorem Rel.gN (R:Rel P κ ln z c s env h n):alk c.g s.n=none:=by
 cases a:alk s.hp s.n with
 | some b=>exact R.g _ _ a
 | none=>
  cases e:alk c.g s.n with
  | none=>rfl
  | some B=>
   have:thp c s s.n=some B:=by unfold thp; rw [a]; exact e
   exact absurd (R.lt _ _ this) (Nat.lt_irrefl _)
theorem Rel.zN (R:Rel P κ ln z c s env h n) {q:Nat} (a:n<=q):z q=none:=by
 cases hz:z q with
 | none=>rfl
 | some B=>have:=R.zin q B hz; rw [R.hn q a] at this; cases this
theorem Rel.new (R:Rel P κ ln z c s env h n) (B:TB sem) (k:Yb Nat) (l:Nat) (F:∀ q B,h q=some B->h' q=some B) (C:n<=n') (A:∀ q,k=some q->n<=q/\q<n') (E:∀ q,n'<=q->h' q=none)
  (hB:BR P (updK κ s.n k) (updK ln s.n l) z h' (s.n+1) s.n B) (hF:B.isF=false:=by rfl):Rel P (updK κ s.n k) (updK ln s.n l) z c { s with hp:=(s.n,some B)::s.hp,n:=s.n+1 } env h' n':=by
 have u:∀ id,id<s.n->updK κ s.n k id = κ id:=λid t=>kao t;have D:∀ id,id<s.n->updK ln s.n l id=ln id:=λid t=>kao t;refine ⟨λx=>(R.env x).mono u D (λ_ _ h=>h) (jbp _),λid m a=>?_,λid m a=>?_,λi j I J q t v ki y=>?_,λq m f=>F q m (R.zin q m f),λid m q a f=>?_,λid m q a f=>?_,E,R.e0,λid b a=>?_,R.dy,R.zk,R.fam.map (λid m a=>?_) (λid _ B r _ G h2 H=>((R.fam id B G h2).2 r H).2.1) C⟩
 ·rw [thp_n] at a;split at a
  ·rename_i e; cases a; subst e; exact hB
  ·exact (R.blk id m a).mono u D (λ_ _ h=>h) (jbp _) (R.lt id m a) λq B _=>F q B
 ·rw [thp_n] at a;split at a
  ·rename_i e; subst e; exact jbk _
  ·exact jee (R.lt id m a)
 ·rw [thp_n] at t v;split at t
  ·rename_i e; subst e;rw [updK_self] at ki;split at v
   ·rename_i e; exact e.symm
   ·rw [u j (R.lt j _ v)] at y;have:=R.bnd j _ q v y;have:=A q ki;omega
  ·rw [u i (R.lt i _ t)] at ki;split at v
   ·rename_i e; subst e;rw [updK_self] at y;have:=R.bnd i _ q t ki;have:=A q y;omega
   ·rw [u j (R.lt j _ v)] at y;exact R.inj i j _ _ q t v ki y
 ·rw [thp_n] at a;split at a
  ·rename_i e; subst e;rw [updK_self] at f;exact R.zN (A q f).1
  ·rw [u id (R.lt id _ a)] at f; exact R.zout id m q a f
 ·rw [thp_n] at a;split at a
  ·rename_i e; subst e;rw [updK_self] at f;exact (A q f).2
  ·rw [u id (R.lt id _ a)] at f; exact jar (R.bnd id m q a f) C
 ·simp only [alk] at a;split at a
  ·rename_i e; subst e; exact R.gN
  ·exact R.g id b a
 ·rw [thp_n] at a;split at a
  ·rename_i e; cases a; subst e; exact .inr ⟨hF,λq f=>by rw [updK_self] at f; exact (A q f).1⟩
  ·exact .inl ⟨m,a,λh=>h,u id (R.lt id _ a),D id (R.lt id _ a)⟩
theorem kab {id:Nat} {B:TB sem} (a:alk s.hp id=some (some B)):thp c s id=some B:=by unfold thp; rw [a]
theorem Rel.set (R:Rel P κ ln z c s env h n) {id q:Nat} {m B:TB sem} {AB:ABlk} (l:alk s.hp id=some (some m)) (u:κ id=some q) (hB:BR P κ ln z (updH h q AB) s.n id B) (hF:B.isF=true->m.isF=true:=by intro h; cases h):Rel P κ ln z c { s with hp:=(id,some B)::s.hp } env (updH h q AB) n:=by
 have E:=R.bnd id m q (kab l) u;refine ⟨R.env,λi f a=>?_,λi f a=>?_,λi j C G k a y ki A=>?_,λk f hz=>?_,λi f k a ki=>?_,λi f k a ki=>?_,λk hn=>?_,R.e0,λi b a=>?_,R.dy,R.zk,R.fam.map (λi f a=>?_) (λid _ B r _ v h2 D=>((R.fam id B v h2).2 r D).2.1) (jah _)⟩
 ·rw [kaO] at a;split at a
  ·rename_i e; cases a; subst e; exact hB
  ·rename_i t;refine (R.blk i f a).mono (λ_ _=>rfl) (λ_ _=>rfl) (λ_ _ h=>h) (jah _) (R.lt i f a) λF C k1 v=>?_;unfold updH;rw [if_neg]; ·exact v
   rintro rfl;exact t (R.owI a (kab l) k1 (.inl u))
 ·rw [kaO] at a;split at a
  ·rename_i e; subst e; exact R.lt _ m (kab l)
  ·exact R.lt i f a
 ·have:∀ i f,thp c { s with hp:=(id,some B)::s.hp } i=some f->∃ x,thp c s i=some x:=λi f a=>by
   rw [kaO] at a;split at a
   ·rename_i e; subst e; exact ⟨m,kab l⟩
   ·exact ⟨_,a⟩
  obtain ⟨_,a⟩:=this i _ a;obtain ⟨_,y⟩:=this j _ y;exact R.inj i j _ _ k a y ki A
 ·unfold updH;split
  ·rename_i e; subst e; rw [R.zout id m _ (kab l) u] at hz; cases hz
  ·exact R.zin k f hz
 ·rw [kaO] at a;split at a
  ·rename_i e; subst e; exact R.zout _ m k (kab l) ki
  ·exact R.zout i f k a ki
 ·rw [kaO] at a;split at a
  ·rename_i e; subst e; exact R.bnd _ m k (kab l) ki
  ·exact R.bnd i f k a ki
 ·unfold updH;rw [if_neg (by omega)]; exact R.hn k hn
 ·simp only [alk] at a;split at a
  ·rename_i e; subst e; exact R.g _ _ l
  ·exact R.g i b a
 ·rw [kaO] at a;split at a
  ·rename_i e; cases a; subst e; exact .inl ⟨m,kab l,hF,rfl,rfl⟩
  ·exact .inl ⟨f,a,λh=>h,rfl,rfl⟩
theorem Rel.del (R:Rel P κ ln z c s env h n) {id:Nat} {v:TB sem} (m:alk s.hp id=some (some v)) (C:∀ q B,h' q=some B->h q=some B) (u:∀ q B,κ id≠some q->h q=some B->h' q=some B):Rel P κ ln z c { s with hp:=(id,none)::s.hp } env h' n:=by
 have sub:∀ i f,thp c { s with hp:=(id,none)::s.hp } i=some f->i≠id/\thp c s i=some f:=λi f a=>by
  rw [kaO] at a;split at a
  ·cases a
  ·rename_i e; exact ⟨e,a⟩
 refine ⟨R.env,λi f a=>?_,λi f a=>R.lt i f (sub i f a).2,λi j x G k a F ki y=>R.inj i j _ _ k (sub _ _ a).2 (sub _ _ F).2 ki y,λk f hz=>?_,λi f k a ki=>R.zout i f k (sub _ _ a).2 ki,λi f k a ki=>R.bnd i f k (sub _ _ a).2 ki,λk hn=>?_,R.e0,λi b a=>?_,R.dy,R.zk,R.fam.map (λi f a=>.inl ⟨f,(sub i f a).2,λh=>h,rfl,rfl⟩) (λid _ B r _ t h2 D=>((R.fam id B t h2).2 r D).2.1) (jah _)⟩
 ·obtain ⟨l,a⟩:=sub i f a;exact (R.blk i f a).mono (λ_ _=>rfl) (λ_ _=>rfl) (λ_ _ h=>h) (jah _) (R.lt i f a) λA x k1 t=>u A x (λe=>l (R.owI a (kab m) k1 (.inl e))) t
 ·exact u k f (λe=>by rw [R.zout id v _ (kab m) e] at hz; cases hz) (R.zin k f hz)
 ·cases E:h' k with
  | none=>rfl
  | some B=>have:=C k B E; rw [R.hn k hn] at this; cases this
 ·simp only [alk] at a;split at a
  ·rename_i e; subst e; exact R.g _ _ m
  ·exact R.g i b a
theorem kcF {α:Type}:∀ (ids:Ya Nat) (l:Ya (Nat×Yb α)) (i:Nat),alk (ids.map (λid=>(id,none))++l) i=if ids.contains i then some none else alk l i
 | [],l,i=>by simp
 | id::ids,l,i=>by
  simp only [jat,jdj,alk,kcF ids l i,List.contains_cons];by_cases h:i=id
  ·subst h; simp
  ·simp [h]
theorem Rel.retire (R:Rel P κ ln z c s env h n) {ids:Ya Nat} {s':TS sem} (F:retire s ids=some s'):Rel P κ ln (hz (ows κ ln c s) h z ids) c s' env h n/\s'.env=s.env/\s'.n=s.n/\(∀ id b,alk s.hp id=some b->id∉ids->alk s'.hp id=some b)/\(∀ id∈ids,∃ B,alk s.hp id=some (some B))/\(∀ id B,alk s'.hp id=some (some B)->id∉ids):=by
 unfold Abs.retire at F;split at F
 ·rename_i A;cases F;have own:∀ id∈ids,∃ B,alk s.hp id=some (some B):=λid a=>by
   have:=jap.1 A id a;split at this
   ·rename_i B hB; exact ⟨_,hB⟩
   ·cases this
  have sub:∀ i f,thp c { s with hp:=ids.map (λid=>(id,none))++s.hp,dy:=s.dy||!ids.isEmpty } i=some f->i∉ids/\thp c s i=some f:=λi f a=>by
   unfold thp at a ⊢;rw [kcF] at a;split at a
   ·rename_i b m;split at m
    ·cases m; cases a
    ·rename_i v;rw [m]; exact ⟨by simpa using v,a⟩
   ·rename_i m;split at m
    ·cases m
    ·rename_i v;rw [m]; exact ⟨by simpa using v,a⟩
  refine ⟨⟨λx=>(R.env x).mono (λ_ _=>rfl) (λ_ _=>rfl) (hz_z R.zin) (jah _),λi f a=>?_,λi f a=>R.lt i f (sub i f a).2,λi j Q U C a G ki M=>R.inj i j _ _ C (sub _ _ a).2 (sub _ _ G).2 ki M,kcH R.zin,λi f C a ki=>?_,λi f C a ki=>R.bnd i f C (sub _ _ a).2 ki,R.hn,R.e0,λi b a=>?_,λH=>?_,λq k T es D e y=>?_,R.fam.map (λi f a=>.inl ⟨f,(sub i f a).2,λh=>h,rfl,rfl⟩) (λid f B r K E h2 J=>?_) (jah _)⟩,rfl,rfl,λid b m u=>?_,own,λid B m=>?_⟩
  ·exact (R.blk i f (sub i f a).2).mono (λ_ _=>rfl) (λ_ _=>rfl) (hz_z R.zin) (jah _) (R.lt i f (sub i f a).2) λS Q k1 E=>E
  ·obtain ⟨u,a⟩:=sub i f a;unfold hz;rw [if_neg]
   ·exact R.zout i f C a ki
   ·intro l;obtain ⟨id,t,y⟩:=jbq.1 l;obtain ⟨B,hB⟩:=own id t;have:=R.owI a (kab hB) (.inl ki) (kci (kab hB) (by simpa using y));subst this; exact u t
  ·replace a:alk (ids.map (λid=>(id,none))++s.hp) i=some b:=a;rw [kcF] at a;split at a
   ·rename_i v;obtain ⟨B,hB⟩:=own i (by simpa using v);exact R.g i _ hB
   ·exact R.g i b a
  ·simp only [jea,Bool.not_eq_eq_eq_not,Bool.not_false,jcw] at H;rw [H.2,kaP]; exact R.dy H.1
  ·unfold hz at D;split at D
   ·rename_i l;obtain ⟨id,t,I⟩:=jbq.1 l;obtain ⟨B,hB⟩:=own id t;exact (R.blk id B (kab hB)).elenO (kci (kab hB) (by simpa using I)) D e y
   ·exact R.zk q k T es D e y
  ·obtain ⟨_,L,W,_⟩:=(R.fam id B E h2).2 r J;unfold hz;rw [if_neg]
   ·exact L
   ·intro l;obtain ⟨j,G,y⟩:=jbq.1 l;obtain ⟨Bj,hBj⟩:=own j G;have:=R.owI E (kab hBj) (.inr ⟨h2,J⟩) (kci (kab hBj) (by simpa using y));subst this; exact (sub _ _ K).1 G
  ·show alk (ids.map (λid=>(id,none))++s.hp) id=some b;rw [kcF,if_neg (by simpa using u)]; exact m
  ·replace m:alk (ids.map (λid=>(id,none))++s.hp) id=some (some B):=m;rw [kcF] at m;split at m
   ·cases m
   ·rename_i v; simpa using v
 ·cases F
def Ke (c:Cx sem) (N:Nat) (κ:Nat->Yb Nat) (ln:Nat->Nat) (κ':Nat->Yb Nat) (ln':Nat->Nat):Prop:=∀ id,id<N->κ' id = κ id/\(c.has id=true->ln' id=ln id)
theorem Ke.refl {c:Cx sem} {N:Nat} {κ:Nat->Yb Nat} {ln:Nat->Nat}:Ke c N κ ln κ ln:=λ_ _=>⟨rfl,λ_=>rfl⟩
theorem Ke.trans {c:Cx sem} {N M:Nat} {κ κ' b:Nat->Yb Nat} {ln ln' a:Nat->Nat} (h:Ke c N κ ln κ' ln') (h':Ke c M κ' ln' b a) (hN:N<=M):Ke c N κ ln b a:=λid f=>⟨(h' id (by omega)).1.trans (h id f).1,λe=>((h' id (by omega)).2 e).trans ((h id f).2 e)⟩
def calm (o:Oper):Bool:=!isW [] 0 o&&!kfF o&&(match o.op with | .buildSlice _ _ _ | .move _ | .assign _ | .build _ _=>false | _=>true)
def Res (P:Ye) (κ:Nat->Yb Nat) (ln:Nat->Nat) (z:AH) (c:Cx sem) (s:TS sem) (env:Env) (h:AH) (n:Nat) (o:Oper) {ρ:Ty} (Kf:TV sem->TS sem->sem.Ans ρ) (r:ρ.den):Prop:=
 ∃ a s' v h' n' κ' ln' z',(∀ K:K3,K v h' n'->aop P env h n o K)/\Kf a s'=some r/\Rel P κ' ln' z' c s' env h' n'/\TVR P κ' ln' z' s'.n a v/\s.n<=s'.n/\Ke c s.n κ ln κ' ln'/\(calm o=true->s'=s/\h'=h/\n'=n/\κ' = κ/\ln'=ln/\z'=z)
variable {o:Oper} {ρ:Ty} {Kf:TV sem->TS sem->sem.Ans ρ} {r:ρ.den}
theorem Rel.q (R:Rel P κ ln z c s env h n) {a:TV sem} {v:AV} (e:∀ K:K3,K v h n->aop P env h n o K) (f:TVR P κ ln z s.n a v) (b:Kf a s=some r):Res P κ ln z c s env h n o Kf r:=
 ⟨a,s,v,h,n,κ,ln,z,e,b,R,f,jah _,λ_ _=>⟨rfl,λ_=>rfl⟩,λ_=>⟨rfl,rfl,rfl,rfl,rfl,rfl⟩⟩
theorem fails {m:String} {t:Ty} {r:t.den}:(sem.fail (t:=t) m=some r)->False:=λh=>by cases h
theorem kfg (u:calm o=false) (R:Rel P κ ln z c s env h n) {T:Yc} {t:Ty} {l:Ya t.den} {es:Ya (Ya AV)} (j:t.dat=true) (x:SnapE z es (l.map t.enc)) (m:∀ e∈es,∀ a∈e,a.one=true)
  (v:∀ K:K3,K (.ms n 0 l.length) (updH h n (.cells t.wd T es)) (n+1)->aop P env h n o K) (k:newSl (A:=sem) s T t l Kf=some r):Res P κ ln z c s env h n o Kf r:=by
 have y:=R.new (h':=updH h n (.cells t.wd T es)) (n':=n+1) (.sl T t l) (some n) l.length (λq B b=>by
   unfold updH; rw [if_neg]; ·exact b
   rintro rfl; rw [R.hn _ (jah _)] at b; cases b) (jbp _) (λq b=>by cases b; omega) (λq b=>by unfold updH; rw [if_neg (by omega)]; exact R.hn q (by omega))
  (.sl T t l n es j updK_self (by simp [updH]) x m updK_self.symm)
 exact ⟨.mw s.n,_,_,_,_,_,_,_,v,k,y,by have:=TVR.mw (P:=P) (κ:=updK κ s.n (some n)) (ln:=updK ln s.n l.length) (z:=z) (N:=s.n+1) s.n n (jbk _) updK_self; rw [updK_self] at this; exact this,jbp _,λid f=>⟨kao f,λ_=>kao f⟩,λi=>by rw [u] at i; cases i⟩
theorem kgr (i:calm o=false) (R:Rel P κ ln z c s env h n) {T:Yc} {t:Ty} (f:t.dat=true)
  (k:∀ K:K3,K nilS h n->aop P env h n o K) (j:newSl (A:=sem) s T t ([]:Ya t.den) Kf=some r):Res P κ ln z c s env h n o Kf r:=by
 have l:=R.new (h':=h) (n':=n) (.sl T t []) none 0 (λq B a=>a) (jah _) (λq a=>by cases a) R.hn (.sl0 T t [] f updK_self rfl updK_self);exact ⟨.mw s.n,_,_,_,_,_,_,_,k,j,l,.mw0 s.n (jbk _) updK_self,jbp _,λid e=>⟨kao e,λ_=>kao e⟩,λb=>by rw [i] at b; cases b⟩
theorem khj (l:calm o=false) (R:Rel P κ ln z c s env h n) {T:Yc} {vs:Ya (TV sem)} {asZ:Ya AV} (f:TVRs P κ ln z s.n vs asZ) (k:∀ a∈asZ,a.one=true)
  (m:∀ K:K3,K (.own n 0 0) (updH h n (.cells asZ.length T [asZ])) (n+1)->aop P env h n o K) (j:newBx (A:=sem) s (.bx T vs) Kf=some r):Res P κ ln z c s env h n o Kf r:=by
 have t:=R.new (h':=updH h n (.cells asZ.length T [asZ])) (n':=n+1) (.bx T vs) (some n) 0 (λq B b=>by
   unfold updH; rw [if_neg]; ·exact b
   rintro rfl; rw [R.hn _ (jah _)] at b; cases b) (jbp _) (λq b=>by cases b; omega) (λq b=>by unfold updH; rw [if_neg (by omega)]; exact R.hn q (by omega))
  (.bx T vs n asZ updK_self (by simp [updH,f.len]) (f.mono (λid e=>kao e) (λid e=>kao e) (λ_ _ h=>h) (jbp _)) k)
 exact ⟨.ptr s.n 0,_,_,_,_,_,_,_,m,j,t,.ptr s.n 0 n (jbk _) updK_self,jbp _,λid e=>⟨kao e,λ_=>kao e⟩,λi=>by rw [l] at i; cases i⟩
theorem kkA (C:calm o=false) (R:Rel P κ ln z c s env h n) {T:Yc} {t:Ty} {x:t.den} {asZ:Ya AV} (i:t.dat=true) (k:SnapL z asZ (t.enc x)) (y:∀ a∈asZ,a.one=true)
  (D:∀ K:K3,K (.own n 0 0) (updH h n (.cells asZ.length T [asZ])) (n+1)->aop P env h n o K) (v:newBx (A:=sem) s (.el T t x) Kf=some r):Res P κ ln z c s env h n o Kf r:=by
 have f:asZ.length=t.wd:=by rw [<-kaf t x i]; exact k.len.symm
 have E:=R.new (h':=updH h n (.cells asZ.length T [asZ])) (n':=n+1) (.el T t x) (some n) (match t with | .ar m _=>m | _=>0) (λq B b=>by
   unfold updH; rw [if_neg]; ·exact b
   rintro rfl; rw [R.hn _ (jah _)] at b; cases b) (jbp _) (λq b=>by cases b; omega) (λq b=>by unfold updH; rw [if_neg (by omega)]; exact R.hn q (by omega))
  (.el T t x n asZ i updK_self (by simp [updH,f]) k y (λm u e=>by subst e; exact updK_self))
 exact ⟨.ptr s.n 0,_,_,_,_,_,_,_,D,v,E,.ptr s.n 0 n (jbk _) updK_self,jbp _,λid j=>⟨kao j,λ_=>kao j⟩,λl=>by rw [C] at l; cases l⟩
theorem Snap.one_rev {a a':AV} (e:Snap z a a') (b:a'.one=true):a.one=true:=by
 cases e <;> first | exact b | rfl | (simp [AV.one] at b; done)
theorem SnapL.one_rev {a b:Ya AV} (h:SnapL z a b) (f:∀ x∈b,x.one=true):∀ x∈a,x.one=true:=by
 induction h with
 | nil=>intro x e; cases e
 | cons k h2 i=>
  intro x e;rcases jbi.1 e with rfl | e
  ·exact k.one_rev (f _ (by simp))
  ·exact i (λy j=>f y (by simp [j])) x e
end
theorem kuF {l:Ya Ty} (h:∀ t∈l,t.dat=true):(stTy l).dat=true:=by
 have b:∀ l:Ya Ty,(∀ t∈l,t.dat=true)->(tup l).dat=true:=by
  intro l;induction l with
  | nil=>intro _; rfl
  | cons t ts a=>
   intro h;cases ts with
   | nil=>exact h t (by simp)
   | cons u ts=>simp only [tup,Ty.dat,jad]; exact ⟨h t (by simp),a λx e=>h x (by simp [e])⟩
 unfold stTy;split
 ·rfl
 ·simp only [Ty.dat]; exact h _ (by simp)
 ·exact b l h
theorem kot {α β:Type} {f:α->Yb β} {p:β->Prop} (b:∀ x y,f x=some y->p y):∀ (l:Ya α) (r:Ya β),l.mapM f=some r->∀ y∈r,p y
 | [],r,h=>by simp at h; subst h; simp
 | x::l,r,h=>by
  simp only [jdw,Option.bind_eq_bind,jaa,Option.pure_def,Option.some.injEq] at h;obtain ⟨y,e,r',hr,rfl⟩:=h;intro w a;rcases jbi.1 a with rfl | a
  ·exact b x _ e
  ·exact kot b l r' hr w a
theorem kmV {P:Ye}:∀ (d:Nat) (T:Yc) (t:Ty),tyF P d T=some t->t.dat=true
 | 0,T,t,h=>by simp [tyF] at h
 | d+1,T,t,h=>by
  simp only [tyF] at h;split at h;any_goals (simp only [jac] at h)
  all_goals first | (cases h; rfl) | (cases h; done) | (obtain ⟨u,e,rfl⟩:=h; exact kmV d _ u e) | skip
  ·obtain ⟨ts,a,rfl⟩:=h;exact kuF (kot (λx y b=>kmV d _ y b) _ _ a)
theorem kcL {P:Ye} {T:Yc} {t:Ty} (h:tyOf P T=some t):t.dat=true:=kmV 9 T t h
section
variable {P:Ye} {κ κ':Nat->Yb Nat} {ln ln':Nat->Nat} {z z':AH} {c:Cx sem} {s:TS sem} {env:Env} {h h':AH} {n n' N N':Nat}
variable {o:Oper} {ρ:Ty} {Kf:TV sem->TS sem->sem.Ans ρ} {r:ρ.den}
variable {d:Yb Tmp} {ty:Yc} {pos:String} {after:Array Edge} {g:Yb (Nat×Bool)}
theorem kaa {α:Type} {r:α} (h:none=some r) {p:Prop}:p:=by cases h
theorem kkB (i:calm o=false) (R:Rel P κ ln z c s env h n) {T:Yc} {v:TV sem} {a:AV} (f:TVR P κ ln z s.n v a) (e:∀ K:K3,K a h n->aop P env h n o K) (b:moveX P s T v Kf=some r):Res P κ ln z c s env h n o Kf r:=by
 unfold moveX at b;split at b
 ·rename_i u;split at b
  ·rename_i hn;obtain rfl:=kaF hn;cases f;unfold nilV at b;split at b
   ·split at b
    ·rename_i t j;exact kgr i R (kcL j) e b
    ·exact R.q e (.sc _ rfl) b
   ·exact R.q e (.sc _ rfl) b
  ·exact R.q e f b
 ·exact R.q e f b
theorem TVR.getB_inv {v:TV sem} {a:AV} {b:Bool} (f:TVR P κ ln z N v a) (e:getB v=some b):a = .sc (.bool b):=by
 cases f <;> try (simp only [getB,reduceCtorEq] at e; done)
 ·rename_i t x j i;cases t <;> simp only [getB,Option.some.injEq,reduceCtorEq] at e;subst e; exact i.sc_inv
 ·cases e; rfl
theorem TVR.i_inv {k:IntKind} {x:Int} {a:AV} (b:TVR P κ ln z N (.c (.i k) x) a):a = .sc (.int k x):=by
 cases b with | c _ _ _ _ hs=>exact hs.sc_inv
theorem TVR.b_inv {x:Bool} {a:AV} (e:TVR P κ ln z N (.c .b x) a):a = .sc (.bool x):=by
 cases e with | c _ _ _ _ hs=>exact hs.sc_inv
theorem TVR.s_inv {x:Ya UInt8} {a:AV} (b:TVR P κ ln z N (.c .s x) a):a=str x:=by
 cases b with | c _ _ _ _ hs=>exact hs.sc_inv
theorem TVR.i64_inv {v:TV sem} {x:Int} {a:AV} (e:TVR P κ ln z N v a) (b:kcU v=some x):a = .sc (.int .i64 x):=by
 cases e <;> try (simp only [kcU,reduceCtorEq] at b; done)
 rename_i t y i f;cases t <;> simp only [kcU,reduceCtorEq] at b;rename_i k;cases k <;> simp only [kcU,Option.some.injEq,reduceCtorEq] at b;subst b;exact f.sc_inv
theorem TVR.int (k:IntKind) (x:Int):TVR P κ ln z N (.c (.i k) x) (.sc (.int k x)):=.c (.i k) x _ rfl (.free _ (.sc _))
theorem TVR.bool (x:Bool):TVR P κ ln z N (.c .b x) (.sc (.bool x)):=.c .b x _ rfl (.free _ (.sc _))
theorem TVR.str (x:Ya UInt8):TVR P κ ln z N (.c .s x) (Abs.str x):=.c .s x _ rfl (.free _ (.sc _))
theorem TVR.free {t:Ty} {x:t.den} (a:t.dat=true):TVR P κ ln z N (.c t x) (t.av x):=.c t x _ a (.free _ (kfX t x a))
theorem kbS {ρ:Ty} {b:Bool} {x y:sem.Ans ρ} {r:ρ.den} (h:sem.ite b x y=some r):(b=true/\x=some r)\/(b=false/\y=some r):=by
 cases b
 ·exact .inr ⟨rfl,by simpa using h⟩
 ·exact .inl ⟨rfl,by simpa using h⟩
theorem keT {T:Yc} {zs:Ya AV} (hz:zeroO P T=some zs):∀ a∈zs,∃ v,a = .sc v/\v.oneCell'=true:=by
 unfold zeroO at hz;simp only [jaa] at hz;obtain ⟨i,l,k,j,hz⟩:=hz;split at hz
 ·rename_i b;cases hz;simp only [jad,jcj] at b;intro a f;obtain ⟨v,e,rfl⟩:=jba.1 f;exact ⟨v,rfl,b.1 v (by simpa using e)⟩
 ·cases hz
theorem kcW:∀ (zs:Ya AV) (Ts:Ya Yc) {κ:Nat->Yb Nat} {ln:Nat->Nat} {s:TS sem},Rel P κ ln z c s env h n->(∀ a∈zs,∃ v,a = .sc v/\v.oneCell'=true)->zs.length=Ts.length->
  ∃ κ' ln',Rel P κ' ln' z c (zeroC P s zs Ts).2 env h n/\TVRs P κ' ln' z (zeroC P s zs Ts).2.n (zeroC P s zs Ts).1 zs/\s.n<=(zeroC P s zs Ts).2.n/\(zeroC P s zs Ts).2.env=s.env/\(∀ id,id<s.n->κ' id = κ id)/\(∀ id,id<s.n->ln' id=ln id)/\
   (∀ id b,alk s.hp id=some b->id<s.n->alk (zeroC P s zs Ts).2.hp id=some b)
 | [],[],κ,ln,s,R,_,_=>⟨κ,ln,R,.nil,jah _,rfl,λ_ _=>rfl,λ_ _=>rfl,λ_ _ m _=>m⟩
 | [],_::_,_,_,_,_,_,hl=>by simp at hl
 | _::_,[],_,_,_,_,_,hl=>by simp at hl
 | a::zs,T::Ts,κ,ln,s,R,hz,hl=>by
  obtain ⟨v,rfl,G⟩:=hz _ (jdz ..);have k:∀ a∈zs,∃ v,a = .sc v/\v.oneCell'=true:=λa H=>hz a (jbm _ H);have j:zs.length=Ts.length:=by simpa using hl
  have f:∃ κ' ln',Rel P κ' ln' z c (zeroC P s zs Ts).2 env h n/\TVRs P κ' ln' z (zeroC P s zs Ts).2.n (ofVal sem v::(zeroC P s zs Ts).1) (.sc v::zs)/\s.n<=(zeroC P s zs Ts).2.n/\(zeroC P s zs Ts).2.env=s.env/\(∀ id,id<s.n->κ' id = κ id)/\(∀ id,id<s.n->ln' id=ln id)/\
   (∀ id b,alk s.hp id=some b->id<s.n->alk (zeroC P s zs Ts).2.hp id=some b):=by
   obtain ⟨κ',ln',D,x,h2,A,l,y,C⟩:=kcW zs Ts R k j;exact ⟨κ',ln',D,.cons _ _ _ _ (khs v G) x,h2,A,l,y,C⟩
  simp only [zeroC];split
  ·rename_i hn;obtain rfl:=kaF hn;split
   ·rename_i e I;split
    ·rename_i t F;have E:=kcL F;have R1:=R.new (h':=h) (n':=n) (.sl e t []) none 0 (λq B u=>u) (jah _) (λq u=>by cases u) R.hn (.sl0 e t [] E updK_self rfl updK_self);obtain ⟨κ',ln',D,x,h2,A,l,y,C⟩:=kcW zs Ts R1 k j;refine ⟨κ',ln',D,.cons _ _ _ _ (.mw0 s.n (jar (jbk _) h2) (by rw [l s.n (jbk _)]; exact updK_self)) x,Nat.le_of_succ_le h2,A,λid i=>by rw [l id (jee i)]; exact kao i,λid i=>by rw [y id (jee i)]; exact kao i,λid b m i=>C id b (by simp only [alk]; rw [if_neg (by omega)]; exact m) (jee i)⟩
    ·exact f
   ·exact f
  ·exact f
theorem kpZ {t:Ty} {x:t.den} (e:∀ zs rest,isZ t zs=some rest->∃ a,zs=a++rest/\SnapL z a (t.enc x)):∀ (m:Nat) (zs rest:Ya AV),repO (isZ t) m zs=some rest->∃ a,zs=a++rest/\SnapL z a ((List.replicate m x).map t.enc).flatten
 | 0,zs,rest,h=>by simp [repO] at h; subst h; exact ⟨[],rfl,.nil⟩
 | m+1,zs,rest,h=>by
  simp only [repO,jaa] at h;obtain ⟨f,j,h2⟩:=h;obtain ⟨a,rfl,g1⟩:=e zs f j;obtain ⟨b,rfl,i⟩:=kpZ e m f rest h2;exact ⟨a++b,by simp,by simpa [List.replicate_succ] using g1.append i⟩
theorem kct:∀ (t:Ty) (x:t.den) (zs rest:Ya AV),t.dat=true->zeroD (A:=sem) t=some x->isZ t zs=some rest->∃ a,zs=a++rest/\SnapL z a (t.enc x)
 | .pr t u,x,zs,rest,hd,hx,hz=>by
  simp only [zeroD,jaa,jac] at hx;obtain ⟨y,j,D,h2,rfl⟩:=hx;simp only [isZ,jaa] at hz;obtain ⟨B,g1,C⟩:=hz;simp only [Ty.dat,jad] at hd;obtain ⟨a,rfl,k1⟩:=kct t y zs B hd.1 j g1;obtain ⟨b,rfl,k2⟩:=kct u D B rest hd.2 h2 C;exact ⟨a++b,by simp,k1.append k2⟩
 | .w t,x,zs,rest,hd,hx,hz=>by
  simp only [zeroD,jac] at hx;obtain ⟨y,j,rfl⟩:=hx;exact kct t y zs rest hd j hz
 | .ar m t,x,zs,rest,hd,hx,hz=>by
  simp only [zeroD,jac] at hx;obtain ⟨y,j,rfl⟩:=hx;simp only [isZ] at hz;split at hz
  ·obtain ⟨a,e,g1⟩:=kpZ (z:=z) (λzs rest h=>kct t y zs rest hd j h) m zs rest hz;exact ⟨a,e,g1⟩
  ·cases hz
 | .un,x,zs,rest,hd,hx,hz=>by simp [isZ] at hz; subst hz; exact ⟨[],rfl,.nil⟩
 | .i k,x,zs,rest,hd,hx,hz=>by
  cases zs with
  | nil=>simp [isZ] at hz
  | cons a zs=>
   cases a <;> try (simp [isZ] at hz; done)
   rename_i v;cases v <;> try (simp [isZ] at hz; done)
   simp only [isZ] at hz;split at hz
   ·rename_i f;obtain ⟨rfl,rfl⟩:=f;cases hz; cases hx;exact ⟨[_],rfl,.cons (.free _ (.sc _)) .nil⟩
   ·cases hz
 | .b,x,zs,rest,hd,hx,hz=>by
  cases zs with
  | nil=>simp [isZ] at hz
  | cons a zs=>
   cases a <;> try (simp [isZ] at hz; done)
   rename_i v;cases v <;> try (simp [isZ] at hz; done)
   simp only [isZ] at hz;split at hz
   ·cases hz
   ·rename_i f;cases hz; cases hx;refine ⟨[_],rfl,.cons ?_ .nil⟩;rw [jcv] at f; subst f; exact .free _ (.sc _)
 | .s,x,zs,rest,hd,hx,hz=>by
  cases zs with
  | nil=>simp [isZ] at hz
  | cons a zs=>
   cases a <;> try (simp [isZ] at hz; done)
   rename_i v;cases v <;> try (simp [isZ] at hz; done)
   simp only [isZ] at hz;split at hz
   ·rename_i w f;cases hz; cases hx;refine ⟨[_],rfl,.cons ?_ .nil⟩;obtain ⟨⟨l⟩⟩:=w;simp at f; subst f;exact .free _ (.sc _)
   ·cases hz
 | .sl t,x,zs,rest,hd,hx,hz=>by
  cases zs with
  | nil=>simp [isZ] at hz
  | cons a zs=>
   cases a <;> try (simp [isZ] at hz; done)
   rename_i v;simp only [isZ] at hz;split at hz
   ·rename_i f;cases hz; cases hx;rw [kaF f];exact ⟨[_],rfl,.cons .nilS .nil⟩
   ·cases hz
 | .op t,x,zs,rest,hd,hx,hz=>by
  cases zs with
  | nil=>simp [isZ] at hz
  | cons a zs=>
   cases a <;> try (simp [isZ] at hz; done)
   rename_i v;simp only [isZ] at hz;split at hz
   ·rename_i f;cases hz; cases hx;rw [khf f];exact ⟨[_],rfl,.cons (.free _ (.sc _)) .nil⟩
   ·cases hz
 | .pt _,x,zs,rest,hd,hx,hz=>by simp [zeroD] at hx
 | .nt,x,zs,rest,hd,hx,hz=>by simp [zeroD] at hx
 | .sm _ _,x,zs,rest,hd,hx,hz=>by simp [zeroD] at hx
 | .fn _ _ _,x,zs,rest,hd,hx,hz=>by simp [zeroD] at hx
end
section
variable {P:Ye} {κ κ':Nat->Yb Nat} {ln ln':Nat->Nat} {z z':AH} {c:Cx sem} {s:TS sem} {env:Env} {h h':AH} {n n' N N':Nat}
variable {ρ:Ty} {Kf:TV sem->TS sem->sem.Ans ρ} {r:ρ.den}
variable {d:Yb Tmp} {ty:Yc} {pos:String} {after:Array Edge} {g:Yb (Nat×Bool)}
theorem koJ (R:Rel P κ ln z c s env h n) {T:Yc} (b:kqw P s T Kf=some r):Res P κ ln z c s env h n ⟨d,.alloc T,ty,pos,after,g⟩ Kf r:=by
 unfold kqw at b;split at b
 ·rename_i zs Ts hz hT;split at b
  ·rename_i hl;have i:=keT hz;have f:∀ a∈zs,a.one=true:=λa M=>by obtain ⟨v,rfl,L⟩:=i a M; exact L
   have y:newBx (zeroC P s zs Ts).2 (.bx T (zeroC P s zs Ts).1) Kf=some r->Res P κ ln z c s env h n ⟨d,.alloc T,ty,pos,after,g⟩ Kf r:=λb=>by
    obtain ⟨κ',ln',Q,G,h2,U,F,H,W⟩:=kcW zs Ts R i hl;obtain ⟨C,s',v,h',n',E,l,z2,g1,D,S,I,m⟩:=khj (o:=⟨d,.alloc T,ty,pos,after,g⟩) rfl Q G f (λK b=>by simp only [aop,hz]; exact b) b;exact ⟨C,s',v,h',n',E,l,z2,g1,D,S,I,by have:=m.1; omega,λid B=>⟨(m.2.1 id (by omega)).1.trans (F id B),λk=>((m.2.1 id (by omega)).2 k).trans (H id B)⟩,λk=>by cases k⟩
   split at b
   ·rename_i t A;split at b
    ·exact y b
    ·split at b
     ·rename_i x J;split at b
      ·rename_i j;obtain ⟨rest,hr,u⟩:=jcu _ _ |>.1 j;obtain rfl:=jcw.1 u;obtain ⟨a,e,g1⟩:=kct (z:=z) t x zs [] (kcL A) J hr;rw [jbf] at e; subst e;exact kkA rfl R (kcL A) g1 f (λK b=>by simp only [aop,hz]; exact b) b
      ·exact kaa b
     ·exact kaa b
   ·exact y b
  ·exact kaa b
 ·exact kaa b
theorem ksl (R:Rel P κ ln z c s env h n) {T:Yc} {x:Yf} {v:TV sem} (I:TVR P κ ln z s.n v (ev env x)) (f:boxX s T v Kf=some r):Res P κ ln z c s env h n ⟨d,.box T x,ty,pos,after,g⟩ Kf r:=by
 have l:∀ vs,kas v=some vs->newBx s (.bx T vs) Kf=some r->Res P κ ln z c s env h n ⟨d,.box T x,ty,pos,after,g⟩ Kf r:=λvs C f=>by
  obtain ⟨asZ,B,h2⟩:=I.one_cells C;refine khj rfl R h2 ?_ (λK f=>by simp only [aop,B]; exact f) f;generalize ev env x=a at *
  intro b u;cases I with
  | c t x a A D=>
   obtain ⟨cs,G,E⟩:=kfW A D;rw [B] at G; cases G;exact E.one_rev (kaH t x A) b u
  | ag Q H _ L=>cases B; exact L b u
  | un | ud | tp | gs | yl | kp=>simp [kas] at C
  | sc w M=>cases B; simp at u; subst u; exact M
  | fq t x o a A D=>rcases D.fp_inv with ⟨cs,rfl,_⟩ | ⟨id,i,j,k,T,es,e,rfl,_⟩ <;> (cases B; simp at u; subst u; rfl)
  | cv m x y F a J=>obtain ⟨g,H,rfl,_⟩:=J; cases B; simp at u; subst u; rfl
  | _=>cases B; simp at u; subst u; rfl
 unfold boxX at f;split at f
 ·rename_i t y;split at f
  ·rename_i C;exact l _ (by simp only [kas,C,if_true]) f
  ·cases I with
   | c _ _ a A D=>
    obtain ⟨cs,G,E⟩:=kfW A D;exact kkA rfl R A E (E.one_rev (kaH t y A)) (λK f=>by simp only [aop,G]; exact f) f
 ·split at f
  ·rename_i vs C;exact l vs C f
  ·exact kaa f
theorem khx {t':Ty} {y:t'.den} {cs:Ya AV} {m:Nat} {ag:Bool} (f:t'.dat=true) (i:t'.agg=ag) (j:t'.wd=m) (b:SnapL z (cs.take m) (t'.enc y)) (hl:m<=cs.length) :
  ∃ a,TVR P κ ln z N (.c t' y) a/\(ag=true->a = .ag (cs.take m))/\(ag=false->cs[0]?=some a):=by
 cases ag with
 | true=>exact ⟨.ag (cs.take m),.c _ _ _ f (by rw [kdK i]; exact Snap.agL b),λ_=>rfl,(λe=>by cases e)⟩
 | false=>
  have k:=ktt i f;rw [kdN i f] at b;cases cs with
  | nil=>simp at hl; omega
  | cons a cs=>
   rw [show m=1 by omega] at b;simp only [List.take_succ_cons,jdi] at b;cases b with
   | cons k1 _=>exact ⟨a,.c _ _ _ f k1,(λe=>by cases e),λ_=>rfl⟩
theorem kbL {α:Type} {l:Ya α} {i:Int} {y:α} (h:gi l i=some y):0<=i/\l[i.toNat]?=some y/\i.toNat<l.length:=by
 obtain ⟨a,h2⟩:=kmk h;exact ⟨a,h2,(jae.1 h2).1⟩
theorem SnapE.at {es es':Ya (Ya AV)} (f:SnapE z es es') {q:Nat} {e':Ya AV} (a:es'[q]?=some e'):∃ e,es[q]?=some e/\SnapL z e e':=by
 obtain ⟨e,b⟩:=kag f.1 a;exact ⟨e,b,f.2 q e e' b a⟩
theorem kft {α β:Type} {l:Ya α} {f:α->β} {q:Nat} {y:α} (h:l[q]?=some y):(l.map f)[q]?=some (f y):=by rw [jas,h]; rfl
theorem kuv {t:Ty} {x:t.den} {o:Nat} {a:AV} (b:∀ q B,z q=some B->h q=some B) (m:Snap z a (.fp ((t.enc x).drop o))):∃ cs,deref h a=some cs/\SnapL z cs ((t.enc x).drop o):=by
 rcases m.fp_inv with ⟨cs,rfl,f⟩ | ⟨id,i,j,k,T,es,e,rfl,f,h2,l⟩
 ·exact ⟨cs,rfl,f⟩
 ·exact ⟨e.drop j,by simp only [deref,b _ _ f,h2]; rfl,l⟩
theorem keU:∀ (t:Ty) (x:t.den) (o m:Nat) (ag:Bool) {t':Ty} {y:t'.den},t.dat=true->comp (A:=sem) t x o m ag=some ⟨t',y⟩->t'.dat=true/\t'.agg=ag/\t'.wd=m/\o+m<=t.wd/\((t.enc x).drop o).take m=t'.enc y
 | .pr t u,x,o,m,ag,t',y,hd,hc=>by
  simp only [Ty.dat,jad] at hd;have l1:=kaf t x.1 hd.1;have l2:=kaf u x.2 hd.2;show _/\_/\_/\o+m<=t.wd+u.wd/\((t.enc x.1++u.enc x.2).drop o).take m=_;simp only [comp] at hc;split at hc
  ·rename_i e;obtain ⟨rfl,rfl,rfl⟩:=e;cases hc;exact ⟨by simp [Ty.dat,hd],rfl,rfl,by omega,by rw [jco,jaz (by simp; omega)]; rfl⟩
  ·split at hc
   ·rename_i k;obtain ⟨g1,f,l,v,j⟩:=keU t x.1 o m ag hd.1 hc;refine ⟨g1,f,l,by omega,?_⟩;rw [jdo (by omega),List.take_append_of_le_length (by simp; omega)];exact j
   ·split at hc
    ·rename_i k;obtain ⟨g1,f,l,v,j⟩:=keU u x.2 (o-t.wd) m ag hd.2 hc;refine ⟨g1,f,l,by omega,?_⟩;rw [List.drop_append,jbg (by omega),jav,l1];exact j
    ·cases hc
 | .w t,x,o,m,ag,t',y,hd,hc=>by
  simp only [comp] at hc;split at hc
  ·rename_i e;obtain ⟨rfl,rfl,rfl⟩:=e;cases hc;have a:=kaf (.w t) x hd;simp only [Ty.wd] at a;exact ⟨hd,rfl,rfl,by simp [Ty.wd],by rw [jco,jaz (by omega)]⟩
  ·exact keU t x o m ag hd hc
 | .i _,x,o,m,ag,t',y,hd,hc | .b,x,o,m,ag,t',y,hd,hc | .s,x,o,m,ag,t',y,hd,hc | .un,x,o,m,ag,t',y,hd,hc
 | .sl _,x,o,m,ag,t',y,hd,hc | .pt _,x,o,m,ag,t',y,hd,hc | .op _,x,o,m,ag,t',y,hd,hc | .ar _ _,x,o,m,ag,t',y,hd,hc=>by
  simp only [comp] at hc;split at hc
  ·rename_i e;obtain ⟨rfl,rfl,rfl⟩:=e;cases hc;have a:=kaf _ x hd;exact ⟨hd,rfl,rfl,by omega,by rw [jco,jaz (by omega)]⟩
  ·cases hc
 | .nt,x,o,m,ag,t',y,hd,hc=>by simp [Ty.dat] at hd
 | .sm _ _,x,o,m,ag,t',y,hd,hc=>by simp [Ty.dat] at hd
 | .fn _ _ _,x,o,m,ag,t',y,hd,hc=>by simp [Ty.dat] at hd
theorem kha (R:Rel P κ ln z c s env h n) {T:Yc} {x:Yf} {t:Ty} {y:t.den} {j m:Nat} {ag:Bool} {D:Ya AV} (f:t.dat=true) (e:aggO P T=some ag) (u:P.cellsOf T=m) (hp:deref h (ev env x)=some D) (k:SnapL z (D.take (t.wd-j)) ((t.enc y).drop j))
  (b:partX t y j m ag (λv=>Kf v s)=some r):Res P κ ln z c s env h n ⟨d,.load T x,ty,pos,after,g⟩ Kf r:=by
 unfold partX at b;split at b
 ·rename_i p B;obtain ⟨t',E⟩:=p;obtain ⟨g1,l,C,F,A⟩:=keU t y j m ag f B;have hl:=k.len;rw [jdb,kaf t y f,jbh] at hl;have i:=k.take m;rw [A,List.take_take,jdm (by omega)] at i;obtain ⟨a,k1,k2,k3⟩:=khx (P:=P) (κ:=κ) (ln:=ln) (N:=s.n) g1 l C i (by omega);refine R.q (λK b=>?_) k1 b;simp only [aop,hp,loadK,e];cases ag with
  | true=>refine ⟨by omega,?_⟩; rw [u,<-k2 rfl]; exact b
  | false=>exact ⟨a,k3 rfl,b⟩
 ·exact kaa b
theorem kim (R:Rel P κ ln z c s env h n) {T:Yc} {x:Yf} {t:Ty} {y:t.den} {j m:Nat} {ag:Bool} {cs:Ya AV} (b:t.dat=true) (a:aggO P T=some ag) (f:P.cellsOf T=m) (e:SnapL z cs (t.enc y)) (hp:deref h (ev env x)=some (cs.drop j))
  (i:partX t y j m ag (λv=>Kf v s)=some r):Res P κ ln z c s env h n ⟨d,.load T x,ty,pos,after,g⟩ Kf r:=by
 refine kha R b a f hp ?_ i;have hl:=e.len;rw [kaf t y b] at hl;rw [jaz (by simp; omega)];exact e.drop j
theorem koz (R:Rel P κ ln z c s env h n) {T:Yc} {x:Yf} {t:Ty} {y:t.den} {j m:Nat} {ag:Bool} (b:t.dat=true) (a:aggO P T=some ag) (f:P.cellsOf T=m) (k:Snap z (ev env x) (.fp ((t.enc y).drop j)))
  (i:partX t y j m ag (λv=>Kf v s)=some r):Res P κ ln z c s env h n ⟨d,.load T x,ty,pos,after,g⟩ Kf r:=by
 obtain ⟨cs,hp,e⟩:=kuv R.zin k;refine kha R b a f hp ?_ i;have hl:=e.len;rw [jdb,kaf t y b] at hl;rw [jaz (by omega)];exact e
theorem klh {q id j:Nat} {x:Yf} {k:Nat} {T:Yc} {asZ:Ya AV} (a:ev env x = .own q 0 j) (b:h q=some (.cells k T [asZ])):deref h (ev env x)=some (asZ.drop j):=by
 rw [a]; simp only [deref,b]; rfl
theorem kgV {q i j:Nat} {x:Yf} {k:Nat} {T:Yc} {es:Ya (Ya AV)} {e:Ya AV} (a:ev env x = .own q i j) (b:h q=some (.cells k T es)) (f:es[i]?=some e):deref h (ev env x)=some (e.drop j):=by
 rw [a]; simp only [deref,b,f]; rfl
theorem klT {α:Type} {k:Nat} {f:α->Ya AV} (b:∀ y,(f y).length=k):∀ (l:Ya α) (i:Nat) (y:α),l[i]?=some y->(((l.map f).flatten).drop (i*k)).take k=f y
 | [],i,y,h=>by simp at h
 | a::l,0,y,h=>by simp at h; subst h; simp [<-b a]
 | a::l,i+1,y,h=>by
  have:=klT b l i y (by simpa using h);rw [jat,List.flatten_cons,List.drop_append,jbg (by rw [b a,Nat.succ_mul]; omega),jav,b a,show (i+1)*k-k=i*k by rw [Nat.succ_mul]; omega];exact this
theorem kqJ (R:Rel P κ ln z c s env h n) {T:Yc} {x:Yf} {v:TV sem} (G:TVR P κ ln z s.n v (ev env x)) (b:loadX P c s T v Kf=some r):Res P κ ln z c s env h n ⟨d,.load T x,ty,pos,after,g⟩ Kf r:=by
 unfold loadX at b;split at b
 ·exact kaa b
 ·rename_i ag D;simp only at b;split at b
  ·rename_i id j;generalize J:ev env x=a at G;cases G with
   | ptr _ _ q hN F=>
    split at b
    ·rename_i T' vs hB;cases R.blk _ _ hB with
     | bx _ _ Y asZ u H A U=>
      rw [F] at u; cases u;have hp:=klh (id:=id) J H;have hl:=A.len;split at b
      ·rename_i E;split at b
       ·rename_i af;refine R.q (λK b=>?_) (.ag _ _ ((A.drop j).take _) (λa ha=>U a (jdf (jdd ha)))) b;simp only [aop,hp,loadK,D,E];exact ⟨by simp; omega,b⟩
       ·exact kaa b
      ·rename_i E;split at b
       ·rename_i v ac;obtain ⟨a,ha,Z⟩:=A.at ac;refine R.q (λK b=>?_) Z b;simp only [aop,hp,loadK,D];rw [jcv] at E; subst E;exact ⟨a,by rw [jau]; simpa using ha,b⟩
       ·exact kaa b
    ·rename_i T' t y hB;cases R.blk _ _ hB with
     | el _ _ _ Y cs C u H A U hl=>
      rw [F] at u; cases u;exact kim R C D rfl A (klh (id:=id) J H) b
    ·exact kaa b
  ·rename_i id i j;generalize J:ev env x=a at G;cases G with
   | adr _ _ _ q hN F h0 U=>
    split at b
    ·rename_i T' t l hB;simp only [jaa] at b;obtain ⟨y,S,b⟩:=b;obtain ⟨_,W,Q⟩:=kbL S;cases R.blk _ _ hB with
     | sl0 _ _ _ C u hl hn=>rw [F] at u; cases u
     | sl _ _ _ Y es C u H A X hn=>
      rw [F] at u; cases u;obtain ⟨e,M,L⟩:=A.at (kft W);exact kim R C D rfl L (kgV J H M) b
    ·exact kaa b
  ·rename_i id i;generalize J:ev env x=a at G;cases G with
   | aa _ _ q hN F h0 U=>
    split at b
    ·rename_i T' m t y hB;split at b
     ·exact kaa b
     rename_i B;replace B:t.wd=1:=by simpa using B
     simp only [jaa] at b;obtain ⟨w,S,b⟩:=b;obtain ⟨_,W,Q⟩:=kbL S;cases R.blk _ _ hB with
     | el _ _ _ Y cs C u H A X hl=>
      rw [F] at u; cases u;have h2:=klT (k:=1) (f:=t.enc) (λy=>by rw [kaf t y C,B]) y.l i.toNat w W;have I:=(A.drop i.toNat).take 1;rw [Nat.mul_one] at h2;replace I:SnapL z ((cs.drop i.toNat).take 1) (((y.l.map t.enc).flatten.drop i.toNat).take 1):=I;rw [h2] at I;exact kha (t:=t) (y:=w) (j:=0) R C D rfl (klh (id:=id) J H) (by rw [B]; exact I) b
    ·exact kaa b
  ·rename_i id i k;generalize J:ev env x=a at G;cases G with
   | ax _ _ _ q hN F h0 U ae=>
    split at b
    ·rename_i T' m t l hB;split at b
     ·exact kaa b
     rename_i B;replace B:t.wd=1:=by simpa using B
     simp only [jaa] at b;obtain ⟨y,ab,w,S,b⟩:=b;obtain ⟨_,ad,_⟩:=kbL ab;obtain ⟨_,W,Q⟩:=kbL S;cases R.blk _ _ hB with
     | sl0 _ _ _ C u hl hn=>rw [F] at u; cases u
     | sl _ _ _ Y es C u H A X hn=>
      rw [F] at u; cases u;replace C:t.dat=true:=C;obtain ⟨e,M,L⟩:=A.at (kft ad);have h2:=klT (k:=1) (f:=t.enc) (λy=>by rw [kaf t y C,B]) y.l k.toNat w W;have I:=(L.drop k.toNat).take 1;rw [Nat.mul_one] at h2;replace I:SnapL z ((e.drop k.toNat).take 1) (((y.l.map t.enc).flatten.drop k.toNat).take 1):=I;rw [h2] at I;exact kha (t:=t) (y:=w) (j:=0) R C D rfl (kgV J H M) (by rw [B]; exact I) b
    ·exact kaa b
  ·rename_i t y j;cases G with
   | fq _ _ _ _ C hs=>exact koz R C D rfl hs b
  ·rename_i t y;cases G with
   | c _ _ _ C hs=>exact koz (t:=t) (y:=y) (j:=0) R C D rfl (by simpa [Ty.av,Ty.agg,Ty.enc] using hs) b
  ·exact kaa b
end
section
variable {P:Ye} {κ κ':Nat->Yb Nat} {ln ln':Nat->Nat} {z z':AH} {c:Cx sem} {s:TS sem} {env:Env} {h h':AH} {n n' N N':Nat}
variable {ρ:Ty} {Kf:TV sem->TS sem->sem.Ans ρ} {r:ρ.den}
variable {d:Yb Tmp} {ty:Yc} {pos:String} {after:Array Edge} {g:Yb (Nat×Bool)}
theorem ksp (R:Rel P κ ln z c s env h n) {x:Yf} {v:TV sem} (A:TVR P κ ln z s.n v (ev env x)) (f:nilX c s v Kf=some r):Res P κ ln z c s env h n ⟨d,.nilCheck x,ty,pos,after,g⟩ Kf r:=by
 have fin:∀ {w:TV sem},TVR P κ ln z s.n w (ev env x)->liveA h (ev env x)=true->Kf w s=some r->Res P κ ln z c s env h n ⟨d,.nilCheck x,ty,pos,after,g⟩ Kf r:=λH hl f=>R.q (λK f=>by simp only [aop]; exact ⟨hl,f⟩) H f;have live:∀ {a:AV} {cs:Ya AV},Snap z a (.fp cs)->liveA h a=true:=λF=>by
  rcases F.fp_inv with ⟨cs,I,_⟩ | ⟨id,i,j,k,T,es,e,I,J,h2,L⟩
  ·rw [I]; rfl
  ·rw [I]; simp only [liveA,R.zin _ _ J]; rfl
 unfold nilX at f;split at f
 ·rename_i id j;split at f
  ·rename_i C;obtain ⟨B,hB,l⟩:=(jcu _ _).1 C;refine fin A ?_ f;generalize ev env x=a at A;cases A with
   | ptr _ _ q hN u=>
    simp only [liveA];cases R.blk _ _ hB with
    | bx _ _ E asZ b m=>rw [u] at b; cases b; rw [m]; rfl
    | el _ _ _ E cs D b m=>rw [u] at b; cases b; rw [m]; rfl
    | sl0 _ _ _ _ b=>rw [u] at b; cases b
    | sl _ _ _ E cs D b m=>rw [u] at b; cases b; rw [m]; rfl
    | mp=>simp [kbe] at l
    | si=>simp [kbe] at l
    | km=>simp [kbe] at l
    | fm0 _ _ _ _ _ _ _ _ b=>rw [u] at b; cases b
    | fm _ _ _ _ _ _ _ E _ D b m=>rw [u] at b; cases b; rw [m]; rfl
  ·exact kaa f
 ·refine fin A ?_ f;cases A with | fq _ _ _ _ D F=>exact live F
 ·refine fin A ?_ f;cases A with | c _ _ _ D F=>exact live (cs:=_) (by simpa [Ty.av,Ty.agg,Ty.enc] using F)
 ·refine fin A ?_ f;generalize ev env x=a at A;cases A; rfl
 ·refine fin A ?_ f;generalize ev env x=a at A;cases A with | cv _ _ _ _ _ hc=>obtain ⟨g,asZ,rfl,_⟩:=hc; rfl
 ·rename_i id i j;split at f
  ·rename_i C;obtain ⟨B,hB,l⟩:=(jcu _ _).1 C;refine fin A ?_ f;generalize ev env x=a at A;cases A with
   | adr _ _ _ q hN u=>
    simp only [liveA];cases R.blk _ _ hB with
    | bx _ _ E asZ b m=>rw [u] at b; cases b; rw [m]; rfl
    | el _ _ _ E cs D b m=>rw [u] at b; cases b; rw [m]; rfl
    | sl0 _ _ _ _ b=>rw [u] at b; cases b
    | sl _ _ _ E cs D b m=>rw [u] at b; cases b; rw [m]; rfl
    | mp=>simp [kbe] at l
    | si=>simp [kbe] at l
    | km=>simp [kbe] at l
    | fm0 _ _ _ _ _ _ _ _ b=>rw [u] at b; cases b
    | fm _ _ _ _ _ _ _ E _ D b m=>rw [u] at b; cases b; rw [m]; rfl
  ·exact kaa f
 ·rename_i id i j;split at f
  ·rename_i C;obtain ⟨B,hB,l⟩:=(jcu _ _).1 C;refine fin A ?_ f;generalize ev env x=a at A;cases A with
   | fo _ _ _ q hN u=>
    simp only [liveA];cases R.blk _ _ hB with
    | bx _ _ E asZ b m=>rw [u] at b; cases b; rw [m]; rfl
    | el _ _ _ E cs D b m=>rw [u] at b; cases b; rw [m]; rfl
    | sl0 _ _ _ _ b=>rw [u] at b; cases b
    | sl _ _ _ E cs D b m=>rw [u] at b; cases b; rw [m]; rfl
    | mp=>simp [kbe] at l
    | si=>simp [kbe] at l
    | km=>simp [kbe] at l
    | fm0 _ _ _ _ _ _ _ _ b=>rw [u] at b; cases b
    | fm _ _ _ _ _ _ _ E _ D b m=>rw [u] at b; cases b; rw [m]; rfl
  ·exact kaa f
 ·rename_i t y;simp only [jaa] at f;obtain ⟨w,H,f⟩:=f;replace H:y=some w:=H;subst H;cases A with
  | c _ _ _ D F=>
   have G:Snap z (ev env x) (.fp (t.enc w)):=by simpa [Ty.av,Ty.agg,Ty.enc,ptrE] using F
   exact fin (.fq t w 0 _ D (by simpa using G)) (live G) f
 ·cases f
 ·exact kaa f
theorem wk_eq (k:IntKind) (x:Int):wk k x=k.wrap x:=by cases k <;> rfl
theorem kut (R:Rel P κ ln z c s env h n) {f:BinOp} {T u:Yc} {x y:Yf} {k l:IntKind} {a b:Int} (A:ev env x = .sc (.int k a)) (v:ev env y = .sc (.int l b)) (e:binX P c s f T (.c (.i k) a) (.c (.i l) b) Kf=some r) :
  Res P κ ln z c s env h n ⟨d,.binOp f T x y u,ty,pos,after,g⟩ Kf r:=by
 have fin:∀ {k2:IntKind} {w:Int},(∀ F:AV->Prop,F (.sc (.int k2 w))->abinI f k a l b F)->Kf (.c (.i k2) w) s=some r->Res P κ ln z c s env h n ⟨d,.binOp f T x y u,ty,pos,after,g⟩ Kf r:=λm e=>
  R.q (λK e=>by simp only [aop,A,v,abin]; exact m _ e) (.int _ _) e
 have finB:∀ {w:Bool},(∀ F:AV->Prop,F (.sc (.bool w))->abinI f k a l b F)->Kf (.c .b w) s=some r->Res P κ ln z c s env h n ⟨d,.binOp f T x y u,ty,pos,after,g⟩ Kf r:=λm e=>
  R.q (λK e=>by simp only [aop,A,v,abin]; exact m _ e) (.bool _) e
 cases f <;> simp only [binX,ipop,iop,icmp] at e;case quo | rem | shl | shr=>
  split at e
  ·rename_i j;simp only [jaa] at e;obtain ⟨w,t,e⟩:=e;simp only [gquo,grem,gshl,gshr] at t;split at t <;> cases t;refine fin (λF hF=>?_) e;simp only [abinI];simp at j;first | exact ⟨j,by assumption,by rw [wk_eq] at hF; exact hF⟩ | exact ⟨j,by assumption,hF⟩ | exact ⟨by assumption,by rw [wk_eq] at hF; exact hF⟩ | exact ⟨by assumption,hF⟩
  ·exact kaa e
 all_goals
  split at e
  ·rename_i j;subst j;first
    | exact fin (λF hF=>⟨rfl,by rw [wk_eq] at hF; exact hF⟩) e
    | exact fin (λF hF=>⟨rfl,hF⟩) e
    | exact finB (λF hF=>⟨rfl,hF⟩) e
  ·exact kaa e
theorem kno (l:Ya UInt8):(⟨l.toArray⟩:ByteArray).toList=l:=by simp [ByteArray.toList_mk]
theorem kuA (R:Rel P κ ln z c s env h n) {i:BinOp} {T t:Yc} {x y:Yf} {a b:Ya UInt8} (m:ev env x=str a) (l:ev env y=str b) (f:binX P c s i T (.c .s a) (.c .s b) Kf=some r) :
  Res P κ ln z c s env h n ⟨d,.binOp i T x y t,ty,pos,after,g⟩ Kf r:=by
 have finB:∀ {w:Bool},(∀ F:AV->Prop,F (.sc (.bool w))->abinS i ⟨a.toArray⟩ ⟨b.toArray⟩ F)->Kf (.c .b w) s=some r->Res P κ ln z c s env h n ⟨d,.binOp i T x y t,ty,pos,after,g⟩ Kf r:=λu f=>
  R.q (λK f=>by simp only [aop,m,l,abin,str]; exact u _ f) (.bool _) f
 cases i <;> simp only [binX,scmp] at f;case add=>
  simp only [jaa] at f;obtain ⟨w,j,f⟩:=f;unfold gcat at j;split at j <;> cases j;rename_i k;refine R.q (λK f=>?_) (.str _) f;simp only [aop,m,l,abin,str,abinS];refine ⟨by simpa [ByteArray.size] using k,?_⟩;have e:(⟨a.toArray⟩:ByteArray)++⟨b.toArray⟩=⟨(a++b).toArray⟩:=by
   apply ByteArray.ext; simp
  rw [e]; exact f
 all_goals first
  | (refine finB (λF hF=>?_) f; simp only [abinS,kno]; exact hF)
  | exact kaa f
theorem kjh (R:Rel P κ ln z c s env h n) {id q:Nat} {B:TB sem} (hB:thp c s id=some B) (e:κ id=some q) (i:kbe B=true):isCells (h q)=true:=by
 cases R.blk _ _ hB with
 | bx _ _ f asZ a b=>rw [e] at a; cases a; rw [b]; rfl
 | el _ _ _ f cs j a b=>rw [e] at a; cases a; rw [b]; rfl
 | sl0 _ _ _ _ a=>rw [e] at a; cases a
 | sl _ _ _ f cs j a b=>rw [e] at a; cases a; rw [b]; rfl
 | mp=>simp [kbe] at i
 | si=>simp [kbe] at i
 | km=>simp [kbe] at i
 | fm0 _ _ _ _ _ _ _ _ a=>rw [e] at a; cases a
 | fm _ _ _ _ _ _ _ f _ j a b=>rw [e] at a; cases a; rw [b]; rfl
theorem ktV (b:∀ q B,z q=some B->h q=some B) {a:AV} {cs:Ya AV} (m:Snap z a (.fp cs)):(∃ us,a = .fp us/\SnapL z us cs)\/∃ id i j,a = .own id i j/\isCells (h id)=true/\∃ k T es e,z id=some (.cells k T es)/\es[i]?=some e/\SnapL z (e.drop j) cs:=by
 rcases m.fp_inv with ⟨us,rfl,f⟩ | ⟨id,i,j,k,T,es,e,rfl,f,h2,l⟩
 ·exact .inl ⟨us,rfl,f⟩
 ·exact .inr ⟨id,i,j,rfl,by rw [b _ _ f]; rfl,k,T,es,e,f,h2,l⟩
theorem kjQ (R:Rel P κ ln z c s env h n) {T ft:Yc} {x:Yf} {f o j:Nat} {t:Ty} {y:t.den} (u:t.dat=true) (v:fldO P T f=some (j,ft)) (B:Snap z (ev env x) (.fp ((t.enc y).drop o))) (a:Kf (.fq t y (o+j)) s=some r) :
  Res P κ ln z c s env h n ⟨d,.fieldAddr T x f,ty,pos,after,g⟩ Kf r:=by
 rcases ktV R.zin B with ⟨us,m,l⟩ | ⟨id,i,q,m,C,k,T',es,e,l,h2,A⟩
 ·exact R.q (λK a=>by simp only [aop,v,m]; exact a) (.fq t y _ (.fp (us.drop j)) u (by rw [<-List.drop_drop]; exact Snap.fpL (l.drop j))) a
 ·refine R.q (λK a=>by simp only [aop,v,m]; exact ⟨C,a⟩) (.fq t y _ (.own id i (q+j)) u ?_) a;have b:=A.drop j;rw [List.drop_drop,List.drop_drop] at b;exact .own id i (q+j) k T' es e _ l h2 b.len b.at
theorem kkY (R:Rel P κ ln z c s env h n) {T:Yc} {x:Yf} {f:Nat} {v:TV sem} (l:TVR P κ ln z s.n v (ev env x)) (b:khX P c s T v f Kf=some r):Res P κ ln z c s env h n ⟨d,.fieldAddr T x f,ty,pos,after,g⟩ Kf r:=by
 unfold khX at b;split at b
 ·exact kaa b
 ·rename_i j ft u;split at b
  ·rename_i id o;split at b
   ·rename_i e;obtain ⟨B,hB,k⟩:=(jcu _ _).1 e;generalize D:ev env x=a at l;cases l with
    | ptr _ _ q hN m=>exact R.q (λK b=>by simp only [aop,u,D]; exact ⟨kjh R hB m k,b⟩) (.ptr id _ q hN m) b
   ·exact kaa b
  ·rename_i id i o;split at b
   ·rename_i e;obtain ⟨B,hB,k⟩:=(jcu _ _).1 e;generalize D:ev env x=a at l;cases l with
    | adr _ _ _ q hN m E F=>exact R.q (λK b=>by simp only [aop,u,D]; exact ⟨kjh R hB m k,b⟩) (.adr id i _ q hN m E F) b
   ·exact kaa b
  ·cases l with
   | fq _ _ _ _ A C=>exact kjQ R A u C b
  ·rename_i t y;cases l with
   | c _ _ _ A C=>exact kjQ (t:=t) (y:=y) (o:=0) R A u (by simpa [Ty.av,Ty.agg,Ty.enc] using C) (by rw [jce]; exact b)
  ·exact kaa b
theorem kpC (R:Rel P κ ln z c s env h n) {T:Yc} {x:Yf} {f:Nat} {v:TV sem} (m:TVR P κ ln z s.n v (ev env x)) (b:koV P s T v f Kf=some r):Res P κ ln z c s env h n ⟨d,.field T x f,ty,pos,after,g⟩ Kf r:=by
 unfold koV at b;split at b
 ·exact kaa b
 ·rename_i j ft B;split at b
  ·exact kaa b
  ·rename_i ag i;simp only at b;split at b
   ·rename_i t y;split at b
    ·rename_i C;generalize l:ev env x=a at m;cases m with
     | c _ _ _ G F=>
      rw [kdK C] at F;obtain ⟨cs,rfl,u⟩:=F.ag_inv;unfold partX at b;split at b
      ·rename_i p L;obtain ⟨t',Q⟩:=p;obtain ⟨g1,H,M,S,I⟩:=keD t y j _ ag cs G L u;obtain ⟨a,k1,k2,k3⟩:=khx (P:=P) (κ:=κ) (ln:=ln) (N:=s.n) g1 H M I (by simp; omega);refine R.q (λK b=>?_) k1 b;simp only [aop,B,l,partK,i];cases ag with
       | true=>simp only; rw [<-k2 rfl]; exact b
       | false=>exact ⟨a,by simpa using k3 rfl,b⟩
      ·exact kaa b
    ·exact kaa b
   ·rename_i vs;generalize l:ev env x=a at m;cases m with
    | ag _ asZ k u=>
     have hl:=k.len;split at b
     ·rename_i e;split at b
      ·rename_i J;refine R.q (λK b=>?_) (.ag _ _ ((k.drop j).take _) (λa E=>u a (jdf (jdd E)))) b;subst e;simp only [aop,B,l,partK,i];exact b
      ·exact kaa b
     ·rename_i e;rw [jcv] at e; subst e;split at b
      ·rename_i v D;obtain ⟨a,E,A⟩:=k.at D;refine R.q (λK b=>?_) A b;simp only [aop,B,l,partK,i];exact ⟨a,E,b⟩
      ·exact kaa b
   ·exact kaa b
theorem knf (R:Rel P κ ln z c s env h n) {T:Yc} {x i:Yf} {v w:TV sem} (G:TVR P κ ln z s.n v (ev env x)) (hw:TVR P κ ln z s.n w (ev env i)) (b:klf P c s T v w Kf=some r):Res P κ ln z c s env h n ⟨d,.indexAddr T x i,ty,pos,after,g⟩ Kf r:=by
 unfold klf at b;split at b
 ·exact kaa b
 ·rename_i j hj;have Y:=hw.i64_inv hj;split at b
  ·rename_i t l;split at b
   ·exact kaa b
   ·rename_i H;simp only [not_or,Decidable.not_not] at H;obtain ⟨ab,I,M⟩:=H;obtain ⟨e,J⟩:=Option.ne_none_iff_exists'.1 ab;rw [J] at I;have I:P.cellsOf e=t.wd:=by simpa using I
    simp only [jaa] at b;obtain ⟨y,F,b⟩:=b;obtain ⟨E,Z,A⟩:=kbL F;generalize L:ev env x=a at G;cases G with
    | c _ _ _ D hs=>
     replace D:t.dat=true:=D;replace hs:Snap z a (.sl (l.map t.enc)):=hs;have ae:=kaf t y D;rcases hs.sl_inv with ⟨es,rfl,Q⟩ | ⟨_,Q⟩ | ⟨id,off,len,k,T',es,rfl,Q,h2,h3⟩
     ·obtain ⟨e',B,C⟩:=Q.at (kft Z);have ac:=C.len;refine R.q (λK b=>?_) (.fq t y 0 (.fp e') D (by rw [jco]; exact Snap.fpL C)) b;simp only [aop,L,Y,kbB,J];exact ⟨E,e',B,by omega,by omega,b⟩
     ·simp only [jdr] at Q; subst Q; simp at A
     ·obtain ⟨e',B,C⟩:=h3.at (kft Z);have ac:=C.len;rw [jbs] at B;split at B
      ·rename_i ad;rw [jau] at B;have af:=R.zk _ _ _ _ Q e' (jai B);refine R.q (λK b=>?_) (.fq t y 0 (.own id (off+j.toNat) 0) D ?_) b
       ·simp only [aop,L,Y,kbB,J,R.zin _ _ Q];exact ⟨E,by omega,by omega,by omega,b⟩
       ·rw [jco];exact .own id _ 0 k T' es e' _ Q B (by simpa using C.len) (by simpa using C.at)
      ·cases B
  ·rename_i id;split at b
   ·rename_i T' t l e hB J;split at b
    ·rename_i H;simp only [jaa] at b;obtain ⟨y,F,b⟩:=b;obtain ⟨E,Z,A⟩:=kbL F;generalize L:ev env x=a at G;cases R.blk _ _ hB with
     | sl0 _ _ _ D f hl hn=>subst hl; simp at A
     | sl _ _ _ X es D f S W U hn=>
      cases G with
      | mw0 _ _ u=>rw [f] at u; cases u
      | mw _ q hN u=>
       rw [f] at u; cases u;refine R.q (λK b=>?_) (.adr id j 0 X hN f E (by omega)) b;simp only [aop,L,Y,kbB,J,S];exact ⟨E,by omega,H.1,H.2,by rw [jce]; exact b⟩
    ·exact kaa b
   ·exact kaa b
  ·rename_i id o len;split at b
   ·rename_i T' t l e hB J;split at b
    ·rename_i H;simp only [jaa] at b;obtain ⟨y,F,b⟩:=b;unfold gmi at F;split at F
     ·rename_i hr;cases F;generalize L:ev env x=a at G;cases R.blk _ _ hB with
      | sl0 _ _ _ D f hl hn=>
       cases G with
       | ms0 _ _ _ _ _ ho hl=>subst hl; omega
       | ms _ _ _ q _ u=>rw [f] at u; cases u
      | sl _ _ _ X es D f S W U hn=>
       cases G with
       | ms0 _ _ _ _ u=>rw [f] at u; cases u
       | ms _ _ _ q hN u E Q h2=>
        rw [f] at u; cases u;refine R.q (λK b=>?_) (.adr id (o+j) 0 X hN f (by omega) (by omega)) b;simp only [aop,L,Y,kbB,J,S];refine ⟨hr.1,by omega,H.1,H.2,?_⟩;rw [show o.toNat+j.toNat=(o+j).toNat by omega]; exact b
     ·cases F
    ·exact kaa b
   ·exact kaa b
  ·rename_i id o;split at b
   ·exact kaa b
   ·rename_i ho;obtain rfl:o=0:=by simpa using ho
    split at b
    ·rename_i T' m t y m' e hB J;split at b
     ·rename_i H;obtain ⟨rfl,I,M⟩:=H;simp only [jaa] at b;obtain ⟨w',F,b⟩:=b;obtain ⟨E,Z,A⟩:=kbL F;rw [y.h] at A;generalize L:ev env x=a at G;cases R.blk _ _ hB with
      | el _ _ _ X cs D f S W U hl=>
       cases G with
       | ptr _ _ q hN u=>
        rw [f] at u; cases u;refine R.q (λK b=>?_) (.aa id j X hN f E (by rw [hl _ _ rfl]; exact A)) b;simp only [aop,L,Y,kbB,J,S];exact ⟨E,by omega,by omega,by rw [M,jce,Nat.mul_one]; exact b⟩
     ·exact kaa b
    ·exact kaa b
  ·rename_i id a o;split at b
   ·exact kaa b
   ·rename_i ho;obtain rfl:o=0:=by simpa using ho
    split at b
    ·rename_i T' m t l m' e hB J;split at b
     ·rename_i H;obtain ⟨rfl,I,M⟩:=H;simp only [jaa] at b;obtain ⟨y,ah,w',F,b⟩:=b;obtain ⟨E,Z,A⟩:=kbL F;rw [y.h] at A;generalize L:ev env x=a' at G;cases R.blk _ _ hB with
      | sl0 _ _ _ D f hl hn=>
       cases G with
       | adr _ _ _ q hN u=>rw [f] at u; cases u
      | sl _ _ _ X es D f S W U hn=>
       cases G with
       | adr _ _ _ q hN u g0 g1=>
        rw [f] at u; cases u;refine R.q (λK b=>?_) (.ax id a j X hN f g0 g1 E) b;simp only [aop,L,Y,kbB,J,S];exact ⟨E,by omega,by omega,by rw [M,jce,Nat.mul_one]; exact b⟩
     ·exact kaa b
    ·exact kaa b
  ·exact kaa b
end
section
variable {P:Ye} {κ κ':Nat->Yb Nat} {ln ln':Nat->Nat} {z z':AH} {c:Cx sem} {s:TS sem} {env:Env} {h h':AH} {n n' N N':Nat}
variable {ρ:Ty} {Kf:TV sem->TS sem->sem.Ans ρ} {r:ρ.den}
variable {d:Yb Tmp} {ty:Yc} {pos:String} {after:Array Edge} {g:Yb (Nat×Bool)}
theorem knL {v:TV sem} {a:AV} (J:TVR P κ ln z N v a) {vs:Ya (TV sem)} (K:kas v=some vs) {asZ:Ya AV} (l:kax a=some asZ):∀ b∈asZ,b.one=true:=by
 intro b f;cases J with
 | c t x a u B=>
  obtain ⟨cs,D,E⟩:=kfW u B;rw [l] at D; cases D;exact E.one_rev (kaH t x u) b f
 | ag I A _ G=>cases l; exact G b f
 | un | ud | tp | gs | yl | kp=>simp [kas] at K
 | sc w H=>cases l; simp at f; subst f; exact H
 | fq t x o a u B=>rcases B.fp_inv with ⟨cs,rfl,_⟩ | ⟨id,i,j,k,T,es,e,rfl,_⟩ <;> (cases l; simp at f; subst f; rfl)
 | cv m x y F a C=>obtain ⟨g,A,rfl,_⟩:=C; cases l; simp at f; subst f; rfl
 | _=>cases l; simp at f; subst f; rfl
theorem kou {t:Ty} (j:t.dat=true) (m:t.wd=1) (w:t.den):∀ (l:Ya t.den) (k:Nat),k<l.length->((l.set k w).map t.enc).flatten=(l.map t.enc).flatten.take k++t.enc w++(l.map t.enc).flatten.drop (k+1):=by
 have e:∀ y:t.den,∃ a,t.enc y=[a]:=λy=>by
  have:=kaf t y j;rw [m] at this;match hh:t.enc y,this with
  | [a],_=>exact ⟨a,rfl⟩
 intro l;induction l with
 | nil=>intro k f; simp at f
 | cons b l u=>
  intro k f;obtain ⟨a,i⟩:=e b;cases k with
  | zero=>simp [i]
  | succ k=>
   have:=u k (by simpa using f);rw [List.set_cons_succ,jat,List.flatten_cons,jat,List.flatten_cons,i,this];simp
theorem kcK (R:Rel P κ ln z c s env h n) {v:TV sem} {a:AV} (e:TVR P κ ln z s.n v a) {t:Ty} {y:t.den} {ids:Ya Nat} (j:snapV (A:=sem) c s t v=some (y,ids)):∃ xs,kax a=some xs/\SnapL (hz (ows κ ln c s) h z ids) xs (t.enc y)/\t.dat=true:=by
 obtain ⟨b,f,_⟩:=kbc R e j;obtain ⟨cs,h2,i⟩:=kfW b f;exact ⟨cs,h2,i,b⟩
theorem kbC {s:TS sem} {id:Nat} {B:TB sem} (h:ownB s id=some B):alk s.hp id=some (some B):=by
 unfold ownB at h;cases a:alk s.hp id with
 | none=>rw [a] at h; cases h
 | some b=>rw [a] at h; simp only at h; rw [h]
theorem kgZ {es es':Ya (Ya AV)} (j:SnapE z es es') {i:Nat} {e e':Ya AV} (k:SnapL z e e'):SnapE z (es.set i e) (es'.set i e'):=by
 refine ⟨by simp [j.1],λq x l f a=>?_⟩;rw [List.getElem?_set] at f a;split at f
 ·rename_i b;rw [if_pos b] at a;split at f
  ·cases f;split at a
   ·cases a; exact k
   ·cases a
  ·cases f
 ·rename_i b;rw [if_neg b] at a;exact j.2 q x l f a
theorem kld {es:Ya (Ya AV)} {i:Nat} {e:Ya AV} (h:∀ e∈es,∀ a∈e,a.one=true) (j:∀ a∈e,a.one=true):∀ x∈es.set i e,∀ a∈x,a.one=true:=by
 intro x b a f;rcases List.mem_or_eq_of_mem_set b with b | rfl
 ·exact h x b a f
 ·exact j a f
theorem koY (R:Rel P κ ln z c s env h n) {T:Yc} {p x:Yf} {u v:TV sem} (hu:TVR P κ ln z s.n u (ev env p)) (hv:TVR P κ ln z s.n v (ev env x)) (f:kpU P c s T u v Kf=some r):Res P κ ln z c s env h n ⟨d,.store T p x,ty,pos,after,g⟩ Kf r:=by
 unfold kpU at f;simp only at f;split at f
 ·exact kaa f
 ·rename_i ag aB;split at f
  ·exact kaa f
  ·rename_i aA;have ae:∀ (xs:Ya AV),kax (ev env x)=some xs->∀ t y,((snapV (A:=sem) c s t v).bind λy=>if y.2.isEmpty then some y.1 else none)=some y->t.dat=true/\SnapL z xs (t.enc y):=λxs E t y J=>by
    simp only [jaa] at J;obtain ⟨⟨w,ids⟩,hw,J⟩:=J;split at J
    ·rename_i ao;cases J;obtain rfl:=jcw.1 ao;obtain ⟨ak,Y,h2,h3⟩:=kcK R hv hw;rw [E] at Y; cases Y;rw [kaP] at h2;exact ⟨h3,h2⟩
    ·cases J
   have am:∀ t y,((snapV (A:=sem) c s t v).bind λy=>if y.2.isEmpty then some y.1 else none)=some y->∃ xs,kax (ev env x)=some xs:=λt y J=>by
    simp only [jaa] at J;obtain ⟨⟨w,ids⟩,hw,J⟩:=J;obtain ⟨ak,Y,h2,h3⟩:=kcK R hv hw;exact ⟨ak,Y⟩
   split at f
   ·rename_i id j;split at f
    ·rename_i T' vs hB;replace hB:=kbC hB;split at f
     ·rename_i xs E;split at f
      ·rename_i F;obtain ⟨al,Y,h2⟩:=hv.one_cells E;have aw:=knL hv E Y;have au:=h2.len;generalize he:ev env p=a at hu;cases hu with
       | ptr _ _ q hN G=>
        cases R.blk _ _ (kab hB) with
        | bx _ _ q' asZ B hh C ho=>
         rw [G] at B; cases B;have hl:=C.len;have D:BR P κ ln z (updH h q (.cells vs.length T' [putAt asZ j al])) s.n id (.bx T' (vs.take j++xs++vs.drop (j+P.cellsOf T))):=by
          refine .bx _ _ q (asZ.take j++al++asZ.drop (j+P.cellsOf T)) G ?_ (((C.take j).append h2).append (C.drop _)) ?_
          ·simp only [updH,if_true];rw [kbh (by omega),au,F.1];congr 2;simp; omega
          ·intro b Q;rcases jay.1 Q with Q | Q
           ·rcases jay.1 Q with Q | Q
            ·exact ho b (jdd Q)
            ·exact aw b Q
           ·exact ho b (jdf Q)
         exact ⟨.ud,_,.ud,_,_,κ,ln,z,λK f=>by
          simp only [aop,he,kbl,hh,Y];exact ⟨by omega,by omega,by omega,f⟩,f,R.set hB G D,.ud,jah _,λ_ _=>⟨rfl,λ_=>rfl⟩,λF=>by cases F⟩
      ·exact kaa f
     ·exact kaa f
    ·rename_i T' t y hB;replace hB:=kbC hB;split at f
     ·rename_i y' Z;generalize he:ev env p=a at hu;cases hu with
      | ptr _ _ q hN G=>
       cases R.blk _ _ (kab hB) with
       | el _ _ _ q' cs I B hh C ho hl=>
        rw [G] at B; cases B;have ⟨xs,E⟩:∃ xs,kax (ev env x)=some xs:=by
         cases af:kax (ev env x) with
         | some xs=>exact ⟨xs,rfl⟩
         | none=>
          exfalso;have:=kbU (z:=z) (xs:=[]) (val:=λt=>(snapV (A:=sem) c s t v).bind λy=>if y.2.isEmpty then some y.1 else none) (λt y J=>by obtain ⟨xs,h⟩:=am t y J; rw [af] at h; cases h) t y j _ ag cs I Z C;simp at this;omega
        obtain ⟨g1,g2,g3⟩:=kbU (z:=z) (ae xs E) t y j _ ag cs I Z C;have ay:∀ b∈xs,b.one=true:=by
         intro b Q;have:b∈cs.take j++xs++cs.drop (j+P.cellsOf T):=by simp [Q]
         exact g3.one_rev (kaH t y' I) b this
        have D:BR P κ ln z (updH h q (.cells t.wd T' [putAt cs j xs])) s.n id (.el T' t y'):=by
         rw [kbh (by omega),g1];refine .el _ _ _ q _ I G (by simp [updH]) g3 (g3.one_rev (kaH t y' I)) hl
        exact ⟨.ud,_,.ud,_,_,κ,ln,z,λK f=>by
         simp only [aop,he,kbl,hh,E];exact ⟨by omega,by omega,by omega,f⟩,f,R.set hB G D,.ud,jah _,λ_ _=>⟨rfl,λ_=>rfl⟩,λF=>by cases F⟩
     ·exact kaa f
    ·exact kaa f
   ·rename_i id i j;split at f
    ·rename_i T' t l hB;replace hB:=kbC hB;generalize he:ev env p=a at hu;cases hu with
     | adr _ _ _ q hN G h0 Y=>
      cases R.blk _ _ (kab hB) with
      | sl0 _ _ _ _ B=>rw [G] at B; cases B
      | sl _ _ _ q' es I B hh C ho hn=>
       rw [G] at B; cases B;have aj:=C.1;rw [jbb,hn] at aj;obtain ⟨e,U⟩:∃ e,es[i.toNat]?=some e:=⟨es[i.toNat]'(by omega),jaf _⟩;obtain ⟨y0,ad⟩:∃ y0,l[i.toNat]?=some y0:=⟨l[i.toNat]'(by omega),jaf _⟩;have L:=C.2 _ _ _ U (kft ad);have ac:=L.len;rw [kaf t y0 I] at ac;split at f
       ·rename_i F;obtain ⟨rfl,hm,rfl⟩:=F;split at f
        ·rename_i y ids J;split at f
         ·rename_i s' aq;split at f
          ·exact kaa f
          ·rename_i X;replace X:id∉ids:=by simpa using X
           obtain ⟨R',e1,e2,e3,e4,e5⟩:=R.retire aq;have hB':=e3 id _ hB X;obtain ⟨xs,E,H,_⟩:=kcK R hv J;have M:=H.len;rw [kaf t y I] at M;have D:BR P κ ln (hz (ows κ ln c s) h z ids) (updH h q (.cells t.wd T' (es.set i.toNat (putAt e 0 xs)))) s'.n id (.sl T' t (lset l i y)):=by
            rw [kbh (by omega),jdi,jav,jce,jbg (by omega),jbf];refine .sl _ _ _ q (es.set i.toNat xs) I G (by simp [updH]) ?_ (kld ho (H.one_rev (kaH t y I))) (by simp [lset]; exact hn);rw [lset,List.map_set];exact kgZ (C.mono (hz_z R.zin)) H
           exact ⟨.ud,_,.ud,_,_,κ,ln,_,λK f=>by
            simp only [aop,he,kbl,hh,E,U];exact ⟨by omega,by omega,by omega,f⟩,f,R'.set hB' G D,.ud,by simp [e2],λ_ _=>⟨rfl,λ_=>rfl⟩,λF=>by cases F⟩
         ·exact kaa f
        ·exact kaa f
       ·simp only [jaa] at f;obtain ⟨y1,hg,f⟩:=f;obtain ⟨_,ah,_⟩:=kbL hg;rw [ad] at ah; cases ah;split at f
        ·rename_i y' Z;have ⟨xs,E⟩:∃ xs,kax (ev env x)=some xs:=by
          cases af:kax (ev env x) with
          | some xs=>exact ⟨xs,rfl⟩
          | none=>
           exfalso;have:=kbU (z:=z) (xs:=[]) (val:=λt=>(snapV (A:=sem) c s t v).bind λy=>if y.2.isEmpty then some y.1 else none) (λt y J=>by obtain ⟨xs,h⟩:=am t y J; rw [af] at h; cases h) t y0 j _ ag e I Z L;simp at this;omega
         obtain ⟨g1,g2,g3⟩:=kbU (z:=z) (ae xs E) t y0 j _ ag e I Z L;have D:BR P κ ln z (updH h q (.cells t.wd T' (es.set i.toNat (putAt e j xs)))) s.n id (.sl T' t (lset l i y')):=by
          rw [kbh (by omega),g1];refine .sl _ _ _ q (es.set i.toNat (e.take j++xs++e.drop (j+P.cellsOf T))) I G (by simp [updH]) ?_ (kld ho (g3.one_rev (kaH t y' I))) (by simp [lset]; exact hn);rw [lset,List.map_set];exact kgZ C g3
         exact ⟨.ud,_,.ud,_,_,κ,ln,z,λK f=>by
          simp only [aop,he,kbl,hh,E,U];exact ⟨by omega,by omega,by omega,f⟩,f,R.set hB G D,.ud,jah _,λ_ _=>⟨rfl,λ_=>rfl⟩,λF=>by cases F⟩
        ·exact kaa f
    ·exact kaa f
   ·rename_i id i;split at f
    ·rename_i T' m t y hB;replace hB:=kbC hB;split at f
     ·exact kaa f
     ·rename_i F;simp only [not_or,Decidable.not_not] at F;split at f
      ·rename_i w hw;generalize he:ev env p=a at hu;cases hu with
       | aa _ _ q hN G h0 Y=>
        cases R.blk _ _ (kab hB) with
        | el _ _ _ q' cs I B hh C ho hl=>
         rw [G] at B; cases B;obtain ⟨xs,E,H,W⟩:=kcK R hv hw;rw [kaP] at H;have M:=H.len;rw [kaf t w W,F.1] at M;have ab:i.toNat<m:=by rw [<-hl _ _ rfl]; exact Y
         have an:=C.len;rw [kaf (.ar m t) y I] at an;simp only [Ty.wd,F.1,Nat.mul_one] at an;have ai:=kou W F.1 w;have S:SnapL z (cs.take i.toNat++xs++cs.drop (i.toNat+1)) ((Ty.ar m t).enc (aset y i w)):=by
          show SnapL z _ (((y.l.set i.toNat w).map t.enc).flatten);rw [ai y.l i.toNat (by rw [y.h]; exact ab)];exact ((C.take _).append H).append (C.drop _)
         have D:BR P κ ln z (updH h q (.cells (Ty.ar m t).wd T' [putAt cs i.toNat xs])) s.n id (.el T' (.ar m t) (aset y i w)):=by
          rw [kbh (by omega),<-M];exact .el _ _ _ q _ I G (by simp [updH]) S (S.one_rev (kaH (.ar m t) _ I)) hl
         exact ⟨.ud,_,.ud,_,_,κ,ln,z,λK f=>by
          simp only [aop,he,kbl,hh,E];exact ⟨by omega,by omega,by omega,f⟩,f,R.set hB G D,.ud,jah _,λ_ _=>⟨rfl,λ_=>rfl⟩,λF=>by cases F⟩
      ·exact kaa f
    ·exact kaa f
   ·rename_i id i k;split at f
    ·rename_i T' m t l hB;replace hB:=kbC hB;split at f
     ·exact kaa f
     ·rename_i F;simp only [not_or,Decidable.not_not] at F;split at f
      ·rename_i w hw;simp only [jaa] at f;obtain ⟨y,ap,w0,hg,f⟩:=f;obtain ⟨_,ad,_⟩:=kbL ap;obtain ⟨_,_,ab⟩:=kbL hg;generalize he:ev env p=a at hu;cases hu with
       | ax _ _ _ q hN G h0 Y az=>
        cases R.blk _ _ (kab hB) with
        | sl0 _ _ _ _ B=>rw [G] at B; cases B
        | sl _ _ _ q' es I B hh C ho hn=>
         rw [G] at B; cases B;obtain ⟨e,U,L⟩:=C.at (kft ad);obtain ⟨xs,E,H,W⟩:=kcK R hv hw;rw [kaP] at H;have M:=H.len;rw [kaf t w W,F.1] at M;have ac:=L.len;rw [kaf (.ar m t) y I] at ac;simp only [Ty.wd,F.1,Nat.mul_one] at ac;rw [y.h] at ab;have S:SnapL z (e.take k.toNat++xs++e.drop (k.toNat+1)) ((Ty.ar m t).enc (aset y k w)):=by
          show SnapL z _ (((y.l.set k.toNat w).map t.enc).flatten);rw [kou W F.1 w y.l k.toNat (by rw [y.h]; exact ab)];exact ((L.take _).append H).append (L.drop _)
         have D:BR P κ ln z (updH h q (.cells (Ty.ar m t).wd T' (es.set i.toNat (putAt e k.toNat xs)))) s.n id (.sl T' (.ar m t) (lset l i (aset y k w))):=by
          rw [kbh (by omega),show k.toNat+xs.length=k.toNat+1 by omega];refine .sl _ _ _ q (es.set i.toNat (e.take k.toNat++xs++e.drop (k.toNat+1))) I G (by simp [updH]) ?_ (kld ho (S.one_rev (kaH (.ar m t) _ I))) (by simp [lset]; exact hn);rw [lset,List.map_set];exact kgZ C S
         exact ⟨.ud,_,.ud,_,_,κ,ln,z,λK f=>by
          simp only [aop,he,kbl,hh,E,U];exact ⟨by omega,by omega,by omega,f⟩,f,R.set hB G D,.ud,jah _,λ_ _=>⟨rfl,λ_=>rfl⟩,λF=>by cases F⟩
      ·exact kaa f
    ·exact kaa f
   ·exact kaa f
theorem ktg (R:Rel P κ ln z c s env h n) {i:UnOp} {T:Yc} {x:Yf} {v:TV sem} (f:TVR P κ ln z s.n v (ev env x)) (b:unX s i v Kf=some r):Res P κ ln z c s env h n ⟨d,.unOp i T x,ty,pos,after,g⟩ Kf r:=by
 unfold unX at b;generalize e:ev env x=a at f;split at b
 ·cases f;exact R.q (λK b=>by simp only [aop,e,unK]; exact b) (.kb _) b
 ·rw [f.b_inv] at e;exact R.q (λK b=>by simp only [aop,e,unK]; exact b) (.bool _) b
 ·rw [f.i_inv] at e;exact R.q (λK b=>by simp only [aop,e,unK]; rw [<-wk_eq]; exact b) (.int _ _) b
 ·rw [f.i_inv] at e;exact R.q (λK b=>by simp only [aop,e,unK]; exact b) (.int _ _) b
 ·exact kaa b
theorem kqx (R:Rel P κ ln z c s env h n) {S T:Yc} {x:Yf} {v:TV sem} (D:TVR P κ ln z s.n v (ev env x)) (b:convX P s S T v Kf=some r):Res P κ ln z c s env h n ⟨d,.convert S T x,ty,pos,after,g⟩ Kf r:=by
 unfold convX at b;generalize C:ev env x=a at D;split at b
 ·rename_i k y M hT;split at b
  ·rename_i hS;rw [D.i_inv] at C;exact R.q (λK b=>by simp only [aop,C,convK,hT]; rw [<-wk_eq]; exact ⟨hS,b⟩) (.int _ _) b
  ·exact kaa b
 ·rename_i x hT;split at b
  ·rename_i E;simp only [jad,jbr] at E;obtain ⟨⟨B,u⟩,G⟩:=E;have hz:=R.dy B;subst hz;refine R.q (λK b=>?_) (.str _) b;obtain ⟨e,f,t⟩:=ksy G;have u:=kdf u;simp only [aop,C];cases D with
   | c _ _ _ L j=>
    replace j:Snap (λ_=>none) a (.sl (x.map (Ty.i .u8).enc)):=j;rcases j.sl_inv with ⟨es,rfl,l⟩ | ⟨rfl,l⟩ | ⟨id,off,len,k,T',es,rfl,l,h2,Q⟩
    ·refine ⟨⟨e,f,t⟩,u,x,?_,b⟩;refine jcm λq=>?_;cases A:es[q]? with
     | none=>
      have:es.length<=q:=List.getElem?_eq_none_iff.1 A;rw [jas,jcd (by have:=l.1; simp at this; omega)]; rfl
     | some y=>
      have F:=(jae.1 A).1;have hl:=l.1;simp only [jbb] at hl;have m:x[q]?=some (x[q]'(by omega)):=jaf _;have H:=l.2 q y _ A (by rw [jas,m]; rfl);rw [jas,m];cases H with
      | cons I J=>cases J; rw [I.sc_inv]; rfl
    ·obtain rfl:x=[]:=by simpa using l
     have hS':P.underlying S=some (.slice e):=by
      unfold elemO at f; split at f
      ·cases f; assumption
      ·cases f
     exact ⟨_,λw=>by rw [run_convert_bytes_string w S T e none 0 0 hS' t u]; rfl,rfl,b⟩
    ·cases l
  ·exact kaa b
 ·exact kaa b
theorem knV (R:Rel P κ ln z c s env h n) {mx:Bool} {T:Array Yc} {x y:Yf} {u v:TV sem} (t:TVR P κ ln z s.n u (ev env x)) (A:TVR P κ ln z s.n v (ev env y)) (f:mmX mx s u v Kf=some r) :
  Res P κ ln z c s env h n ⟨d,.call ⟨.builtin (if mx then .max else .min),#[x,y],T⟩,ty,pos,after,g⟩ Kf r:=by
 unfold mmX at f;generalize m:ev env x=a at t;generalize l:ev env y=b at A;split at f
 ·rename_i k i B j;split at f
  ·rename_i e;subst e;rw [t.i_inv] at m;rw [A.i_inv] at l;cases mx
   ·exact R.q (λK f=>by simp only [aop,kai,jal,if_false,if_true]; rw [m,l]; exact ⟨rfl,f⟩) (.int _ _) f
   ·exact R.q (λK f=>by simp only [aop,kai,jal,if_false,if_true]; rw [m,l]; exact ⟨rfl,f⟩) (.int _ _) f
  ·exact kaa f
 ·exact kaa f
theorem kme (R:Rel P κ ln z c s env h n) {mx:Bool} {T:Array Yc} {x y q:Yf} {u v w:TV sem} (D:TVR P κ ln z s.n u (ev env x)) (E:TVR P κ ln z s.n v (ev env y)) (C:TVR P κ ln z s.n w (ev env q)) (f:(mmX mx s u v λu s'=>mmX mx s' u w Kf)=some r) :
  Res P κ ln z c s env h n ⟨d,.call ⟨.builtin (if mx then .max else .min),#[x,y,q],T⟩,ty,pos,after,g⟩ Kf r:=by
 unfold mmX at f;generalize B:ev env x=a at D;generalize A:ev env y=b at E;generalize m:ev env q=e at C;split at f
 ·rename_i k i F j;split at f
  ·rename_i e;subst e;cases w <;> first | exact kaa f | skip
   rename_i t l;cases t <;> first | exact kaa f | skip
   rename_i k2;simp only at f;split at f
   ·rename_i e;subst e;rw [D.i_inv] at B;rw [E.i_inv] at A;rw [C.i_inv] at m;cases mx
    ·exact R.q (λK f=>by simp only [aop,kai,jal,if_false,if_true]; rw [B,A,m]; exact ⟨⟨rfl,rfl⟩,f⟩) (.int _ _) f
    ·exact R.q (λK f=>by simp only [aop,kai,jal,if_false,if_true]; rw [B,A,m]; exact ⟨⟨rfl,rfl⟩,f⟩) (.int _ _) f
   ·exact kaa f
  ·exact kaa f
 ·exact kaa f
theorem kky (R:Rel P κ ln z c s env h n) {T e:Yc} {B:Nat} {x i:Yf} {vs:Ya (TV sem)} {asZ:Ya AV} (D:ev env x = .ag asZ) (u:TVRs P κ ln z s.n vs asZ) (l:∀ a∈asZ,a.one=true) {j:Int} (C:ev env i = .sc (.int .i64 j)) (E:arrO P T=some (B,e)) {ag:Bool} (t:aggO P e=some ag) (m:P.cellsOf e≠0) (hl:vs.length=B*P.cellsOf e) :
  ∀ (f k:Nat),k+f=B->idxAg (A:=sem) s (P.cellsOf e) ag vs j Kf f k=some r->Res P κ ln z c s env h n ⟨d,.index T x i,ty,pos,after,g⟩ Kf r
 | 0,k,b,h=>by cases h
 | f+1,k,hkm,hh=>by
  simp only [idxAg] at hh;rcases kbS hh with ⟨F,b⟩ | ⟨F,b⟩
  ·have y:j=(k:Int):=of_decide_eq_true F;subst y;cases ag with
   | true=>
    refine R.q (λK hK=>?_) (.ag _ _ ((u.drop _).take _) λa I=>l a (jdf (jdd I))) b;simp only [aop,D,C,idxK,E,partK,t];exact ⟨by omega,by omega,m,by rw [jam]; exact hK⟩
   | false=>
    simp only at b;split at b
    ·rename_i v H;obtain ⟨a,G,h2⟩:=u.at H;refine R.q (λK hK=>?_) h2 b;simp only [aop,D,C,idxK,E,partK,t];exact ⟨by omega,by omega,m,a,by rw [jam]; exact G,hK⟩
    ·exact kaa b
  ·exact kky R D u l C E t m hl f (k+1) (by omega) b
theorem kse (R:Rel P κ ln z c s env h n) {T:Yc} {x i:Yf} {v w:TV sem} (J:TVR P κ ln z s.n v (ev env x)) (U:TVR P κ ln z s.n w (ev env i)) (u:idxX P s T v w Kf=some r):Res P κ ln z c s env h n ⟨d,.index T x i,ty,pos,after,g⟩ Kf r:=by
 unfold idxX at u;split at u
 ·rename_i l;split at u
  ·exact kaa u
  ·rename_i k j E;have M:ev env i = .sc (.int k j):=by
    unfold getI at E;split at E
    ·cases E;generalize ev env i=b at U;cases U with | c _ _ _ C L=>exact L.sc_inv
    ·cases E
   generalize I:ev env x=a at J;split at u
   ·rename_i hT;replace hT:=kdf hT;simp only [jaa] at u;obtain ⟨y,D,u⟩:=u;simp only [gstr,jac] at D;obtain ⟨b,D,rfl⟩:=D;rw [J.s_inv] at I;exact R.q (λK u=>kvB (l:=l) hT I M D u) (.int _ _) u
   ·exact kaa u
 split at u
 ·exact kaa u
 ·rename_i j E;have M:=U.i64_inv E;generalize I:ev env x=a at J;split at u
  ·rename_i m t y Z;split at u
   ·rename_i m' e W;split at u
    ·rename_i Q;obtain ⟨rfl,F,aa,B⟩:=Q;simp only [jaa] at u;obtain ⟨w',D,u⟩:=u;obtain ⟨Y,hy,S⟩:=kbL D;rw [y.h] at S;cases J with
     | c _ _ _ C L=>
      rw [kdK rfl] at L;obtain ⟨cs,rfl,h1⟩:=L.ag_inv;replace C:t.dat=true:=C;have h2:=klT (k:=t.wd) (f:=t.enc) (λy=>kaf t y C) y.l j.toNat w' hy;have G:=(h1.drop (j.toNat*t.wd)).take t.wd;replace G:SnapL z ((cs.drop (j.toNat*t.wd)).take t.wd) (((y.l.map t.enc).flatten.drop (j.toNat*t.wd)).take t.wd):=G;rw [h2] at G;have h4:=G.len;rw [kaf t w' C,jbh] at h4;obtain ⟨a,k1,k2,k3⟩:=khx (P:=P) (κ:=κ) (ln:=ln) (N:=s.n) C rfl rfl G (by omega);refine R.q (λK u=>?_) k1 u;simp only [aop,I,M,idxK,W,partK,B];refine ⟨Y,by omega,by omega,?_⟩;cases A:t.agg with
      | true=>simp only; rw [<-F,<-k2 A]; exact u
      | false=>simp only; exact ⟨a,by rw [<-F]; simpa using k3 A,u⟩
    ·exact kaa u
   ·exact kaa u
  ·rename_i vs;split at u
   ·rename_i m e W;split at u
    ·rename_i ag B;split at u
     ·rename_i Q;cases J with
      | ag _ asZ X H=>exact kky R I X H M W B Q.1 Q.2 m 0 (by omega) u
     ·exact kaa u
    ·exact kaa u
   ·exact kaa u
  ·exact kaa u
theorem ksr (R:Rel P κ ln z c s env h n) {T:Yc} {x:Yf} {v:TV sem} (j:TVR P κ ln z s.n v (ev env x)) (b:lenX P c s T v Kf=some r):Res P κ ln z c s env h n ⟨d,.call ⟨.builtin .len,#[x],#[T]⟩,ty,pos,after,g⟩ Kf r:=by
 unfold lenX at b;generalize y:ev env x=a at j;split at b
 ·rename_i t l;split at b
  ·rename_i i;refine R.q (λK b=>?_) (.int _ _) b;simp only [aop,kai,y];replace b:K (.sc (.int .i64 (l.length:Int))) h n:=b;cases j with
   | c _ _ _ B E=>
    replace E:Snap z a (.sl (l.map t.enc)):=E;rcases E.sl_inv with ⟨es,rfl,m⟩ | ⟨rfl,m⟩ | ⟨id,off,len,k,T',es,rfl,m,h2,J⟩
    ·have hl:=m.1;rw [jbb] at hl;simp only [lenK];exact ⟨i,λ_=>by rw [<-hl]; exact b⟩
    ·simp only [jdr] at m; subst m;simp only [lenK];exact ⟨i,b⟩
    ·have hl:=J.1;rw [jbb,jbh,jdb] at hl;have C:l.length=len:=by omega
     simp only [lenK,R.zin _ _ m];exact ⟨i,rfl,λ_=>by rw [<-C]; exact b⟩
  ·exact kaa b
 ·rename_i id;split at b
  ·rename_i T' t l hB;split at b
   ·rename_i i;refine R.q (λK b=>?_) (.int _ _) b;simp only [aop,kai,y];replace b:K (.sc (.int .i64 (l.length:Int))) h n:=b;cases R.blk _ _ hB with
    | sl0 _ _ _ B e hl hn=>
     subst hl;cases j with
     | mw0=>simp only [lenK]; exact ⟨i,b⟩
     | mw _ q _ f=>rw [e] at f; cases f
    | sl _ _ _ H es B e A F D hn=>
     cases j with
     | mw0 _ _ f=>rw [e] at f; cases f
     | mw _ q _ f=>
      rw [e] at f; cases f;simp only [lenK,A];exact ⟨i,rfl,λ_=>by rw [<-hn]; exact b⟩
   ·exact kaa b
  ·exact kaa b
 ·rename_i id o len;split at b
  ·rename_i T' t l hB;split at b
   ·rename_i i;refine R.q (λK b=>?_) (.int _ _) b;simp only [aop,kai,y];cases R.blk _ _ hB with
    | sl0 _ _ _ B e hl hn=>
     subst hl;cases j with
     | ms0 _ _ _ _ _ U hl=>subst hl; simp only [lenK]; exact ⟨i,b⟩
     | ms _ _ _ q _ f=>rw [e] at f; cases f
    | sl _ _ _ H es B e A F D hn=>
     cases j with
     | ms0 _ _ _ _ f=>rw [e] at f; cases f
     | ms _ _ _ q _ f M m h2=>
      rw [e] at f; cases f;simp only [lenK,A];refine ⟨i,rfl,λ_=>?_⟩;rw [show ((len.toNat:Nat):Int)=len from Int.toNat_of_nonneg m]; exact b
   ·exact kaa b
  ·exact kaa b
 ·rename_i u;split at b
  ·rename_i G;obtain ⟨G,i⟩:=G;cases j;rw [kaF G] at y;refine R.q (λK b=>?_) (.int _ _) b;simp only [aop,kai,y,lenK];exact ⟨i,b⟩
  ·exact kaa b
 ·rename_i l;split at b
  ·rename_i hT;replace hT:=kdf hT;rw [j.s_inv] at y;exact R.q (λK b=>kul (l:=l) hT y b) (.int _ _) b
  ·exact kaa b
 ·rename_i id;split at b
  ·rename_i k L l hB;split at b
   ·rename_i hT;obtain ⟨k1,Q,hT⟩:=ksF hT;cases R.blk _ _ hB with
    | mp _ _ _ q I S f A=>
     cases j with
     | mp _ H _ e=>
      rw [f] at e; cases e;refine R.q (λK b=>?_) (.int _ _) b;simp only [aop,kai,y,lenK,A,hT,jbb];exact b
   ·exact kaa b
  ·exact kaa b
 ·exact kaa b
theorem kte {b:Yb Yf} {l:Int} (a:∀ x,TVR P κ ln z s.n (tev c s x) (ev env x)) (h:loD (b.map (tev c s))=some l):loA (b.map (ev env))=some l:=by
 cases b with
 | none=>cases h; rfl
 | some x=>simp only [jcb] at h ⊢; rw [(a x).i64_inv h]; rfl
theorem kfA {b:Yb Yf} {l:Int} {m:Nat} (a:∀ x,TVR P κ ln z s.n (tev c s x) (ev env x)) (h:hiD (A:=sem) (b.map (tev c s)) (m:Int)=some l):hiA m (b.map (ev env))=some l:=by
 cases b with
 | none=>cases h; rfl
 | some x=>simp only [jcb] at h ⊢; rw [(a x).i64_inv h]; rfl
end
section
variable {P:Ye} {κ κ':Nat->Yb Nat} {ln ln':Nat->Nat} {z z':AH} {c:Cx sem} {s:TS sem} {env:Env} {h h':AH} {n n' N N':Nat}
variable {ρ:Ty} {Kf:TV sem->TS sem->sem.Ans ρ} {r:ρ.den}
variable {d:Yb Tmp} {ty:Yc} {pos:String} {after:Array Edge} {g:Yb (Nat×Bool)}
theorem SnapE.heads {t:Ty} {l:Ya t.den} {es:Ya (Ya AV)} (j:t.dat=true) (b:SnapE z es (l.map t.enc)):∀ e∈es,e.length=t.wd:=by
 intro e m;obtain ⟨i,f⟩:=jde m;have k:=(jae.1 f).1;have a:=b.1;rw [jbb] at a;have:=(b.2 i e _ f (by rw [jas,jaf (by omega)]; rfl)).len;rw [kaf t _ j] at this; exact this.symm
theorem SnapE.td {es es':Ya (Ya AV)} (h:SnapE z es es') (o m:Nat):SnapE z ((es.take m).drop o) ((es'.take m).drop o):=by
 refine ⟨by simp [h.1],λq e e' b a=>?_⟩;rw [jau,jbs] at b a;split at b
 ·rename_i f;rw [if_pos f] at a;exact h.2 _ e e' b a
 ·cases b
theorem kiA {l u:Int} {m:Nat} (g1:0<=l) (b:l<=u) (e:u<=(m:Int)) (a:m=0):l=0/\u=0:=by omega
theorem kpM (R:Rel P κ ln z c s env h n) {T:Yc} {x:Yf} {lo hi:Yb Yf} {v:TV sem} (Y:TVR P κ ln z s.n v (ev env x)) (b:koG P c s T v (lo.map (tev c s)) (hi.map (tev c s)) Kf=some r):Res P κ ln z c s env h n ⟨d,.slice T x lo hi none,ty,pos,after,g⟩ Kf r:=by
 unfold koG at b;split at b
 ·exact kaa b
 ·rename_i l hl;have E:=kte (λx=>R.ev x) hl;simp only at b;generalize W:ev env x=a at Y;split at b
  ·rename_i t y;split at b
   ·rename_i u e X M;have D:=kfA (m:=y.length) (λx=>R.ev x) X;split at b
    ·rename_i Z;obtain ⟨hw,G,ah⟩:=Z;simp only [jaa] at b;obtain ⟨w,F,b⟩:=b;obtain ⟨g1,H,S,F⟩:=kjV F;subst F;have af:=R.dy ah;cases Y with
     | c _ _ _ I hs=>
      replace hs:Snap z a (.sl (y.map t.enc)):=hs;replace I:t.dat=true:=I;have C:∃ i,P.info? e=some i:=jan.1 G;rcases hs.sl_inv with ⟨es,rfl,J⟩ | ⟨rfl,J⟩ | ⟨id,off,len,k,T',es,rfl,J,h2,h3⟩
      ·have ae:=J.1;rw [jbb] at ae;refine R.q (λK b=>?_) (.c (.sl t) ((y.take u.toNat).drop l.toNat) (.sl ((es.take u.toNat).drop l.toNat)) I ?_) b
       ·simp only [aop,W,kcp,kaT,E];rw [<-ae,D];exact ⟨⟨e,M,C,λc Z=>by rw [<-hw]; exact J.heads I c (List.mem_of_mem_head? Z)⟩,g1,H,S,b⟩
       ·show Snap z _ (.sl (((y.take u.toNat).drop l.toNat).map t.enc));rw [List.map_drop,List.map_take];exact Snap.of_sl (J.td _ _)
      ·simp only [jdr] at J;subst J;obtain ⟨gl,gu⟩:=kiA g1 H S rfl;subst gu; subst gl;refine R.q (λK b=>?_) (.c (.sl t) _ nilS I .nilS) b;simp only [aop,W,kcp,kaT,E];rw [show hiA 0 (hi.map (ev env))=some 0 from D];exact ⟨⟨e,M,C⟩,jds _,jds _,jds _,b⟩
      ·rw [af] at J; cases J
    ·exact kaa b
   ·exact kaa b
  ·rename_i id;split at b
   ·rename_i T' t y hB;split at b
    ·rename_i u e X M;have D:=kfA (m:=y.length) (λx=>R.ev x) X;split at b
     ·rename_i Z;obtain ⟨hw,Q,G⟩:=Z;have C:∃ i,P.info? e=some i:=jan.1 G;simp only [jaa] at b;obtain ⟨w,F,b⟩:=b;obtain ⟨g1,H,S,_⟩:=kjV F;cases R.blk _ _ hB with
      | sl0 _ _ _ I f L hn=>
       subst L;obtain ⟨gl,gu⟩:=kiA g1 H S rfl;subst gu; subst gl;cases Y with
       | mw0 _ hN _=>
        refine R.q (λK b=>?_) (.ms0 id 0 (0-0) hN f rfl (by simp)) b;simp only [aop,W,kcp,kaT,E];rw [show hiA 0 (hi.map (ev env))=some 0 from D];exact ⟨⟨e,M,C⟩,jds _,jds _,jds _,b⟩
       | mw _ q _ B=>rw [f] at B; cases B
      | sl _ _ _ q' es I f hh ac ad hn=>
       cases Y with
       | mw0 _ _ B=>rw [f] at B; cases B
       | mw _ q hN B=>
        rw [f] at B; cases B;refine R.q (λK b=>?_) (.ms id l (u-l) q' hN f g1 (by omega) (by rw [<-hn]; omega)) b;simp only [aop,W,kcp,kaT,E,hh];rw [<-hn,D];refine ⟨⟨e,M,hw,Q⟩,g1,H,S,?_⟩;rw [jce,show u.toNat-l.toNat=(u-l).toNat by omega]; exact b
     ·exact kaa b
    ·exact kaa b
   ·exact kaa b
  ·rename_i id o len;split at b
   ·rename_i T' t y hB;split at b
    ·rename_i u e X M;have aa:∀ m:Nat,(m:Int)=len->hiA m (hi.map (ev env))=some u:=λm hm=>by
      subst hm;exact kfA (m:=m) (λx=>R.ev x) X
     split at b
     ·rename_i Z;obtain ⟨hw,Q,G⟩:=Z;have C:∃ i,P.info? e=some i:=jan.1 G;simp only [jaa] at b;obtain ⟨w,F,b⟩:=b;unfold gmb at F;split at F
      ·rename_i A;cases R.blk _ _ hB with
       | sl0 _ _ _ I f L hn=>
        subst L;cases Y with
        | ms0 _ _ _ hN _ ho hl=>
         subst ho; subst hl;obtain ⟨gl,gu⟩:=kiA (m:=0) A.1 A.2.1 A.2.2 rfl;subst gu; subst gl;refine R.q (λK b=>?_) (.ms0 id (0+0) (0-0) hN f (by simp) (by simp)) b;simp only [aop,W,kcp,kaT,E];rw [show hiA 0 (hi.map (ev env))=some 0 from aa 0 rfl];exact ⟨⟨e,M,C⟩,jds _,jds _,jds _,b⟩
        | ms _ _ _ q _ B=>rw [f] at B; cases B
       | sl _ _ _ q' es I f hh ac ad hn=>
        cases Y with
        | ms0 _ _ _ _ B=>rw [f] at B; cases B
        | ms _ _ _ q hN B h0 J h2=>
         rw [f] at B; cases B;have ab:((len.toNat:Nat):Int)=len:=Int.toNat_of_nonneg J;have g1:=A.1;have H:=A.2.1;have S:=A.2.2;refine R.q (λK b=>?_) (.ms id (o+l) (u-l) q' hN f (by omega) (by omega) (by omega)) b;simp only [aop,W,kcp,kaT,E,hh];rw [aa len.toNat ab];refine ⟨⟨e,M,hw,Q⟩,g1,H,by omega,?_⟩;rw [show o.toNat+l.toNat=(o+l).toNat by omega,show u.toNat-l.toNat=(u-l).toNat by omega]; exact b
      ·cases F
     ·exact kaa b
    ·exact kaa b
   ·exact kaa b
  ·rename_i id;split at b
   ·rename_i T' t j U uu y hB;split at b
    ·rename_i u e X M;have D:=kfA (m:=y.length) (λx=>R.ev x) X;split at b
     ·rename_i Z;obtain ⟨hw,Q,G⟩:=Z;have C:∃ i,P.info? e=some i:=jan.1 G;simp only [jaa] at b;obtain ⟨w,F,b⟩:=b;obtain ⟨g1,H,S,_⟩:=kjV F;cases R.blk _ _ hB with
      | fm0 _ _ _ _ _ _ _ I f L hn=>
       subst L;obtain ⟨gl,gu⟩:=kiA g1 H S rfl;subst gu; subst gl;cases Y with
       | fw0 _ hN _=>
        refine R.q (λK b=>?_) (.fs0 id 0 (0-0) hN f rfl (by simp)) b;simp only [aop,W,kcp,kaT,E];rw [show hiA 0 (hi.map (ev env))=some 0 from D];exact ⟨⟨e,M,C⟩,jds _,jds _,jds _,b⟩
       | fw _ q _ B=>rw [f] at B; cases B
      | fm _ _ _ _ _ _ _ q' es I f hh hn hl ac ai ad=>
       cases Y with
       | fw0 _ _ B=>rw [f] at B; cases B
       | fw _ q hN B=>
        rw [f] at B; cases B;refine R.q (λK b=>?_) (.fs id l (u-l) q' hN f g1 (by omega) (by rw [<-hn]; omega)) b;simp only [aop,W,kcp,kaT,E,hh];rw [<-hn,D];refine ⟨⟨e,M,hw,Q⟩,g1,H,S,?_⟩;rw [jce,show u.toNat-l.toNat=(u-l).toNat by omega]; exact b
     ·exact kaa b
    ·exact kaa b
   ·exact kaa b
  ·rename_i y;split at b
   ·rename_i u X;have D:=kfA (m:=y.length) (λx=>R.ev x) X;split at b
    ·rename_i hT;replace hT:=kdf hT;simp only [jaa] at b;obtain ⟨w,F,b⟩:=b;obtain ⟨g1,H,S,F⟩:=kjV F;subst F;rw [Y.s_inv] at W;refine R.q (λK b=>?_) (.str _) b;simp only [aop,W,str,kcp,kaT,E];rw [show (⟨y.toArray⟩:ByteArray).size=y.length by simp [ByteArray.size],D];refine ⟨hT,g1,H,S,?_⟩;have e:(⟨y.toArray⟩:ByteArray).extract l.toNat u.toNat=⟨((y.take u.toNat).drop l.toNat).toArray⟩:=by
      apply ByteArray.ext;simp [List.drop_take]
     rw [e]; exact b
    ·exact kaa b
   ·exact kaa b
  ·exact kaa b
theorem kjE (R:Rel P κ ln z c s env h n) {t:Ty} {v:TV sem} {a:AV} (H:TVR P κ ln z s.n v a) {l:Ya t.den} {ids:Ya Nat} (f:srcX (A:=sem) c s t v=some (l,ids)) :
  t.dat=true/\∃ xs,srcA h t.wd a=some xs/\SnapE z xs (l.map t.enc):=by
 have all:∀ {es:Ya (Ya AV)} {l:Ya t.den},t.dat=true->SnapE z es (l.map t.enc)->srcA h t.wd (.sl es)=some es:=λu h2=>by
  simp only [srcA];rw [if_pos];rw [jap];exact λe D=>by simpa using h2.heads u e D
 have U:∀ {id q:Nat} {T:Yc} {es:Ya (Ya AV)} {t':Ty} {l':Ya t'.den},thp c s id=some (.sl T t' l')->κ id=some q->∃ es,h q=some (.cells t'.wd T es)/\SnapE z es (l'.map t'.enc)/\es.length=ln id:=λhB j=>by
  cases R.blk _ _ hB with
  | sl0 _ _ _ u m hl hn=>rw [j] at m; cases m
  | sl _ _ _ Z es u m Y I F hn=>
   rw [j] at m; cases m;have hl:=I.1;rw [jbb,hn] at hl;exact ⟨es,Y,I,hl.symm⟩
 have W:∀ {id:Nat} {T:Yc} {t':Ty} {l':Ya t'.den},thp c s id=some (.sl T t' l')->κ id=none->l'=[]:=λhB j=>by
  cases R.blk _ _ hB with
  | sl0 _ _ _ u m hl hn=>exact hl
  | sl _ _ _ Z es u m=>rw [j] at m; cases m
 unfold srcX at f;split at f
 ·rename_i x;simp only [jac,Prod.mk.injEq] at f;obtain ⟨y,E,rfl,-⟩:=f;have e:t = .i .u8:=by
   unfold tcast at E;split at E
   ·rename_i e; cases e; rfl
   ·cases E
  subst e;have S:strI x=y:=by simpa [tcast,sem] using E
  subst S;cases H with
  | c _ _ _ u K=>
   obtain rfl:=K.sc_inv;refine ⟨rfl,x.map kgG,by simp [srcA,Ty.wd],?_⟩;have:(strI x).map (Ty.i .u8).enc=x.map kgG:=by simp [strI,kgG,Ty.enc]
   rw [this];refine SnapE.free λe D=>?_;obtain ⟨b,_,rfl⟩:=jba.1 D;simp only [kgG,kbV,kgS,and_true];exact .sc _
 ·split at f
  ·cases f
  ·rename_i Q;obtain ⟨u,F,_⟩:=kbc R H f;have J:=R.dy (by simpa using Q);replace u:t.dat=true:=u;refine ⟨u,?_⟩;have G:ids=[]:=by
    unfold snapV at f;simp only [Ty.dat,u,Bool.true_eq_false,if_false,Ty.agg,jal,snapL] at f;split at f
    ·rename_i x ids' B;cases f;simp only [jac] at B;obtain ⟨y,_,D⟩:=B;cases D; rfl
    ·cases f
   subst G;rw [kaP] at F;replace F:Snap z a (.sl (l.map t.enc)):=F;rcases F.sl_inv with ⟨es,rfl,h2⟩ | ⟨rfl,h2⟩ | ⟨id,off,len,k,T',es,rfl,h2,h3,h4⟩
   ·exact ⟨es,all u h2,h2⟩
   ·simp only [jdr] at h2; subst h2;exact ⟨[],rfl,rfl,λq e e' j=>by simp at j⟩
   ·rw [J] at h2; cases h2
 ·cases f
 ·cases f
 ·cases f
 ·unfold snapV at f;split at f
  ·cases f
  ·rename_i u;replace u:t.dat=true:=by simpa [Ty.dat] using u
   refine ⟨u,?_⟩;simp only [Ty.agg,jal,if_false] at f;split at f
   ·rename_i y ids' B;cases f;cases v <;> simp only [snapL,jac,Option.some.injEq,reduceCtorEq] at B
    ·rename_i L _ _ _; exact (L _ _ rfl).elim
    ·split at B
     ·rename_i hn;cases B;cases H;rw [kaF hn];exact ⟨[],rfl,rfl,λq e e' j=>by simp at j⟩
     ·cases B
    ·split at B
     ·rename_i T' t' l' hB;simp only [jac] at B;obtain ⟨y,E,D⟩:=B;cases D;obtain ⟨e,rfl⟩:=kaj E;cases e;cases H with
      | mw0 _ hN j=>
       obtain rfl:=W hB j;exact ⟨[],rfl,rfl,λq e e' j=>by simp at j⟩
      | mw _ q hN j=>
       obtain ⟨es,g1,M,g3⟩:=U (es:=[]) hB j;refine ⟨es,?_,M⟩;simp only [srcA,g1];rw [if_pos ⟨trivial,by omega⟩,jco,jaz (by omega)]
     ·cases B
    ·split at B
     ·rename_i T' t' l' hB;simp only [jac] at B;obtain ⟨y,E,D⟩:=B;cases D;obtain ⟨e,rfl⟩:=kaj E;cases e;cases H with
      | ms0 _ _ _ hN j X hl=>
       obtain rfl:=W hB j;subst X; subst hl;exact ⟨[],rfl,rfl,λq e e' j=>by simp at j⟩
      | ms _ _ _ q hN j h0 F h2=>
       obtain ⟨es,g1,M,g3⟩:=U (es:=[]) hB j;refine ⟨_,(by simp only [srcA,g1]; exact if_pos ⟨trivial,by omega⟩),?_⟩;show SnapE z _ (((l'.drop _).take _).map t.enc);rw [List.map_take,List.map_drop];exact M.drop_take _ _
     ·cases B
    ·rename_i C _ _; exact (C _ rfl).elim
    ·rename_i C _; exact (C _ _ rfl).elim
    ·rename_i C; exact (C _ _ _ rfl).elim
   ·cases f
theorem SnapE.append {a a' b b':Ya (Ya AV)} (h:SnapE z a a') (g:SnapE z b b'):SnapE z (a++b) (a'++b'):=by
 refine ⟨by simp [h.1,g.1],λq e e' j f=>?_⟩;rw [jbu] at j f;rw [h.1] at f;split at j
 ·rename_i i; rw [if_pos i] at f; exact h.2 _ e e' j f
 ·rename_i i; rw [if_neg i] at f; exact g.2 _ e e' j f
theorem SnapE.ones {t:Ty} {l:Ya t.den} {es:Ya (Ya AV)} (k:t.dat=true) (f:SnapE z es (l.map t.enc)):∀ e∈es,∀ a∈e,a.one=true:=by
 intro e u a v;obtain ⟨i,j⟩:=jde u;have m:=(jae.1 j).1;have b:=f.1;rw [jbb] at b;exact (f.2 i e _ j (by rw [jas,jaf (by omega)]; rfl)).one_rev (kaH t _ k) a v
theorem Rel.delA (R:Rel P κ ln z c s env h n) {id q:Nat} {e:TB sem} (i:alk s.hp id=some (some e)) (f:κ id=some q):Rel P κ ln z c { s with hp:=(id,none)::s.hp } env (delH h q) n:=by
 refine R.del i (λj B a=>?_) (λj B b h2=>?_)
 ·unfold delH at a;split at a
  ·cases a
  ·exact a
 ·unfold delH;rw [if_neg]
  ·exact h2
  ·rintro rfl; exact b f
theorem ksm (R:Rel P κ ln z c s env h n) {T Z:Yc} {x y:Yf} {u v:TV sem} (hu:TVR P κ ln z s.n u (ev env x)) (hv:TVR P κ ln z s.n v (ev env y)) (f:appX P c s T Z u v Kf=some r) :
  Res P κ ln z c s env h n ⟨d,.call ⟨.builtin .append,#[x,y],#[T,Z]⟩,ty,pos,after,g⟩ Kf r:=by
 unfold appX at f;split at f
 ·exact kaa f
 ·rename_i e Y;split at f
  ·rename_i t zs ht hz;split at f
   ·rename_i W;obtain ⟨hp,F,ai,S⟩:=W;have m:zs≠[]:=by rintro rfl; simp at F; omega
    split at f
    ·exact kaa f
    ·rename_i l ids aa;obtain ⟨J,xs,D,k⟩:=kjE R hv aa;rw [<-F] at D;simp only at f;generalize I:ev env x=a at hu;have nilc:ev env x=nilS->(sem.p2 (x:=.sl t) (y:=.sl t) (z:=.sl t) "" (λa b=>gapp a b) ([]:Ya t.den) l λl'=>newSl s e t l' Kf)=some r->Res P κ ln z c s env h n ⟨d,.call ⟨.builtin .append,#[x,y],#[T,Z]⟩,ty,pos,after,g⟩ Kf r:=λI f=>by
      simp only [jaa] at f;obtain ⟨l',C,f⟩:=f;obtain ⟨H,C⟩:=keY C;rw [jav] at C;rw [C] at f;have i:=k.1;rw [jbb] at i;have j:xs.length<=1048576:=by simp at H; omega
      by_cases E:xs=[]
      ·subst E;have:l=[]:=by simpa using i
       subst this;refine kgr rfl R J (λK f=>?_) f;simp only [aop,kai,I,kbm,Y,hz,D];exact ⟨hp,m,S,j,λ_=>f,λh=>absurd rfl h⟩
      ·refine kfg rfl R J k (k.ones J) (λK f=>?_) f;simp only [aop,kai,I,kbm,Y,hz,D];refine ⟨hp,m,S,j,λh=>absurd h E,λ_=>?_⟩;rw [F,<-i]; exact f
     split at f
     ·rename_i id;split at f
      ·rename_i e' t' M hB;split at f
       ·rename_i ad;obtain ⟨rfl,ah⟩:=ad;split at f
        ·rename_i l1 ab;obtain ⟨et,rfl⟩:=kaj ab;cases et;cases R.blk _ _ (kab hB) with
         | sl0 _ _ _ ac G hl hn=>
          subst hl;cases hu with
          | mw0=>
           simp only [jaa] at f;obtain ⟨l',C,f⟩:=f;have R1:=R.del (h':=h) hB (λ_ _ h=>h) (λ_ _ _ h=>h);obtain ⟨H,C⟩:=keY C;rw [jav] at C;rw [C] at f;have i:=k.1;rw [jbb] at i;have j:xs.length<=1048576:=by simp at H; omega
           have up:∀ {Q:Res P κ ln z c { s with hp:=(id,none)::s.hp } env h n ⟨d,.call ⟨.builtin .append,#[x,y],#[T,Z]⟩,ty,pos,after,g⟩ Kf r},Res P κ ln z c s env h n ⟨d,.call ⟨.builtin .append,#[x,y],#[T,Z]⟩,ty,pos,after,g⟩ Kf r:=λ{Q}=>by
            obtain ⟨tv,s',v,h',n',κ2,ae,z2,g1,g2,g3,g4,g6,g7,_⟩:=Q;exact ⟨tv,s',v,h',n',κ2,ae,z2,g1,g2,g3,g4,g6,g7,λW=>by cases W⟩
           by_cases E:xs=[]
           ·subst E;have:l=[]:=by simpa using i
            subst this;refine up (Q:=kgr rfl R1 J (λK f=>?_) f);simp only [aop,kai,I,kbm,Y,hz,D];exact ⟨hp,m,S,j,λ_=>f,λh=>absurd rfl h⟩
           ·refine up (Q:=kfg rfl R1 J k (k.ones J) (λK f=>?_) f);simp only [aop,kai,I,kbm,Y,hz,D];refine ⟨hp,m,S,j,λh=>absurd h E,λ_=>?_⟩;rw [F,<-i]; exact f
          | mw _ q _ A=>rw [G] at A; cases A
         | sl _ _ _ q' es ac G hh U aj hn=>
          cases hu with
          | mw0 _ _ A=>rw [G] at A; cases A
          | mw _ q hN A=>
           rw [G] at A; cases A;simp only [jaa] at f;obtain ⟨l',C,f⟩:=f;obtain ⟨H,C⟩:=keY C;subst C;have i:=k.1;rw [jbb] at i;have L:=U.1;rw [jbb] at L;have R1:=R.delA hB G;have af:delH h q' q'=none:=by simp [delH]
           have X:SnapE z (es++xs) ((M++l).map t.enc):=by rw [jcr]; exact U.append k
           have R2:=R1.new (h':=updH (delH h q') n (.cells t.wd e' (es++xs))) (n':=n+1) (.sl e' t (M++l)) (some n) (M++l).length (λq B A=>by
             unfold updH; rw [if_neg]; ·exact A
             rintro rfl; rw [R1.hn _ (jah _)] at A; cases A) (jbp _) (λq A=>by cases A; omega) (λq A=>by unfold updH; rw [if_neg (by omega)]; exact R1.hn q (by omega))
            (.sl e' t (M++l) n (es++xs) J updK_self (by simp [updH]) X (X.ones J) updK_self.symm)
           refine ⟨.mw s.n,_,.ms n 0 (ln id+xs.length),_,_,_,_,_,λK f=>?_,f,R2,?_,jbp _,λid hi=>⟨kao hi,λ_=>kao hi⟩,λW=>by cases W⟩
           ·simp only [aop,kai,I,kbm,Y,hz,D,hh];refine ⟨hp,m,S,F.symm,trivial,by omega,by omega,?_⟩;exact f
           ·have:=TVR.mw (P:=P) (κ:=updK κ s.n (some n)) (ln:=updK ln s.n (M++l).length) (z:=z) (N:=s.n+1) s.n n (jbk _) updK_self;rw [updK_self] at this;have e0:(M++l).length=ln id+xs.length:=by rw [jax,hn]; omega
            rw [e0] at this;exact e0 ▸ this
        ·exact kaa f
       ·exact kaa f
      ·exact kaa f
     ·rename_i w;split at f
      ·rename_i hn;cases hu;rw [kaF hn] at I;exact nilc I f
      ·exact kaa f
     ·exact kaa f
   ·exact kaa f
  ·exact kaa f
theorem SnapE.take {es es':Ya (Ya AV)} (h:SnapE z es es') (m:Nat):SnapE z (es.take m) (es'.take m):=by
 have:=h.td 0 m
 rwa [jco,jco] at this
theorem SnapE.drop {es es':Ya (Ya AV)} (h:SnapE z es es') (o:Nat):SnapE z (es.drop o) (es'.drop o):=by
 refine ⟨by simp [h.1],λq e e' b a=>?_⟩;rw [jau] at b a;exact h.2 _ e e' b a
theorem Rel.reset (R:Rel P κ ln z c s env h n) {id:Nat} {B:TB sem} (l:alk s.hp id=some (some B)):Rel P κ ln z c { s with hp:=(id,some B)::s.hp } env h n:=by
 have k:∀ x,thp c { s with hp:=(id,some B)::s.hp } x=thp c s x:=λx=>by
  unfold thp;simp only [alk];by_cases e:x=id
  ·subst e; rw [if_pos rfl,l]
  ·rw [if_neg e]
 exact ⟨R.env,λi f a=>R.blk i f (k i ▸ a),λi f a=>R.lt i f (k i ▸ a),λi j t y q a v=>R.inj i j t y q (k i ▸ a) (k j ▸ v),R.zin,λi f q a=>R.zout i f q (k i ▸ a),λi f q a=>R.bnd i f q (k i ▸ a),R.hn,R.e0,λi b a=>by
  simp only [alk] at a;split at a
  ·rename_i e; subst e; exact R.g _ _ l
  ·exact R.g _ _ a,R.dy,R.zk,R.fam.map (λi f a=>.inl ⟨f,k i ▸ a,λh=>h,rfl,rfl⟩) (λid _ B r _ m h2 u=>((R.fam id B m h2).2 r u).2.1) (jah _)⟩
theorem ktk {t:Ty} {l xs:Ya t.den} {es ys:Ya (Ya AV)} (h:SnapE z es (l.map t.enc)) (g:SnapE z ys (xs.map t.enc)) (o m:Nat):SnapE z (es.take o++ys.take m++es.drop (o+m)) ((l.take o++xs.take m++l.drop (o+m)).map t.enc):=by
 rw [jcr,jcr,List.map_take,List.map_take,List.map_drop];exact ((h.take o).append (g.take m)).append (h.drop (o+m))
theorem kqY (R:Rel P κ ln z c s env h n) {T T2:Yc} {x y:Yf} {u v:TV sem} (I:TVR P κ ln z s.n u (ev env x)) (hv:TVR P κ ln z s.n v (ev env y)) (f:copyX P c s T u v Kf=some r) :
  Res P κ ln z c s env h n ⟨d,.call ⟨.builtin .copy,#[x,y],#[T,T2]⟩,ty,pos,after,g⟩ Kf r:=by
 unfold copyX at f;split at f
 ·exact kaa f
 ·rename_i e S;split at f
  ·rename_i t zs ht hz;split at f
   ·rename_i G;obtain ⟨E,ad⟩:=G;have A:zs≠[]:=by rintro rfl; simp at E; omega
    split at f
    ·exact kaa f
    ·rename_i xs ids Q;obtain ⟨hd,ys,B,M⟩:=kjE R hv Q;have ac:=B;rw [<-E] at B;have L:=M.1;rw [jbb] at L;simp only at f;generalize C:ev env x=a at I;have D:∀ {id q:Nat} {e':Yc} {l:Ya t.den} {es:Ya (Ya AV)} {o len:Int} (hB:alk s.hp id=some (some (.sl e' t l))) (k:κ id=some q) (H:h q=some (.cells t.wd e' es)) (m:SnapE z es (l.map t.enc)) (hn:l.length=ln id) (U:0<=o) (W:0<=len) (h2:o+len<=ln id) (C:ev env x = .ms q o.toNat len.toNat),
       Kf (.c (.i .i64) ((λ(a b:Int)=>if b<a then b else a) (lenI xs) len)) { s with hp:=(id,some (.sl e' t (lcopy l o len xs)))::s.hp }=some r->
       Res P κ ln z c s env h n ⟨d,.call ⟨.builtin .copy,#[x,y],#[T,T2]⟩,ty,pos,after,g⟩ Kf r:=by
      intro id q e' l es o len hB k H m hn U W h2 C f;have ab:=m.1;rw [jbb] at ab;have hm:((min ys.length len.toNat:Nat):Int)=(if len<lenI xs then len else lenI xs):=by
       show _=if len<(xs.length:Int) then len else (xs.length:Int);split <;> omega
      have J:SnapE z (es.take o.toNat++ys.take (min ys.length len.toNat)++es.drop (o.toNat+min ys.length len.toNat)) ((lcopy l o len xs).map t.enc):=by
       unfold lcopy;rw [<-L];exact ktk m M _ _
      have Y:(lcopy l o len xs).length=l.length:=by
       unfold lcopy;simp only [jax,jbh,jdb];omega
      refine ⟨_,_,.sc (.int .i64 (if len<lenI xs then len else lenI xs)),updH h q (.cells t.wd e' (es.take o.toNat++ys.take (min ys.length len.toNat)++es.drop (o.toNat+min ys.length len.toNat))),n,κ,ln,z,λK f=>?_,f,R.set hB k (.sl e' t (lcopy l o len xs) q _ hd k (by simp [updH]) J (J.ones hd) (by rw [Y,hn])),.int _ _,jah _,λ_ _=>⟨rfl,λ_=>rfl⟩,λG=>by cases G⟩;simp only [aop,kai,C,copyK,S,hz,B,H];refine ⟨A,E.symm,by omega,?_⟩;rw [hm]; exact f
     split at f
     ·rename_i id;split at f
      ·rename_i e' t' Z hB;split at f
       ·rename_i l hl;obtain ⟨X,rfl⟩:=kaj hl;cases X;cases R.blk _ _ (kab hB) with
        | sl0 _ _ _ F j hl hn=>
         subst hl;cases I with
         | mw0=>
          have e0:lcopy ([]:Ya t.den) 0 (lenI ([]:Ya t.den)) xs=[]:=by simp [lcopy,lenI]
          refine ⟨_,_,.sc (.int .i64 0),h,n,κ,ln,z,λK f=>?_,f,?_,?_,jah _,λ_ _=>⟨rfl,λ_=>rfl⟩,λG=>by cases G⟩
          ·simp only [aop,kai,C,copyK,S,hz,B];exact ⟨A,f⟩
          ·show Rel P κ ln z c { s with hp:=(id,some (.sl e' t (lcopy ([]:Ya t.den) 0 (lenI ([]:Ya t.den)) xs)))::s.hp } env h n;rw [e0]; exact R.reset hB
          ·have:(if lenI ([]:Ya t.den)<lenI xs then lenI ([]:Ya t.den) else lenI xs)=0:=by
            show (if (0:Int)<(xs.length:Int) then (0:Int) else (xs.length:Int))=0;split <;> omega
           show TVR P κ ln z _ (.c (.i .i64) (if lenI ([]:Ya t.den)<lenI xs then lenI ([]:Ya t.den) else lenI xs)) _;rw [this]; exact .int _ _
         | mw _ q _ k=>rw [j] at k; cases k
        | sl _ _ _ q' es F j H m aa hn=>
         cases I with
         | mw0 _ _ k=>rw [j] at k; cases k
         | mw _ q hN k=>
          rw [j] at k; cases k;refine D (o:=0) (len:=lenI Z) hB j H m hn (jds _) (Int.natCast_nonneg _) (by show (0:Int)+(Z.length:Int)<=_; omega) ?_ f;rw [C,<-hn]; rfl
       ·exact kaa f
      ·exact kaa f
     ·rename_i id o len;split at f
      ·rename_i e' t' Z hB;split at f
       ·rename_i l hl;obtain ⟨X,rfl⟩:=kaj hl;cases X;cases R.blk _ _ (kab hB) with
        | sl0 _ _ _ F j hl hn=>
         subst hl;cases I with
         | ms0 _ _ _ hN _ ho hl=>
          subst ho; subst hl;have e0:lcopy ([]:Ya t.den) 0 0 xs=[]:=by simp [lcopy]
          refine ⟨_,_,.sc (.int .i64 0),h,n,κ,ln,z,λK f=>?_,f,?_,?_,jah _,λ_ _=>⟨rfl,λ_=>rfl⟩,λG=>by cases G⟩
          ·simp only [aop,kai,C,copyK,S,hz,B];exact ⟨A,f⟩
          ·show Rel P κ ln z c { s with hp:=(id,some (.sl e' t (lcopy ([]:Ya t.den) 0 0 xs)))::s.hp } env h n;rw [e0]; exact R.reset hB
          ·have:(if (0:Int)<lenI xs then (0:Int) else lenI xs)=0:=by
            show (if (0:Int)<(xs.length:Int) then (0:Int) else (xs.length:Int))=0;split <;> omega
           show TVR P κ ln z _ (.c (.i .i64) (if (0:Int)<lenI xs then (0:Int) else lenI xs)) _;rw [this]; exact .int _ _
         | ms _ _ _ q _ k=>rw [j] at k; cases k
        | sl _ _ _ q' es F j H m aa hn=>
         cases I with
         | ms0 _ _ _ _ k=>rw [j] at k; cases k
         | ms _ _ _ q hN k U W h2=>
          rw [j] at k; cases k;exact D (o:=o) (len:=len) hB j H m hn U W h2 C f
       ·exact kaa f
      ·exact kaa f
     ·rename_i w;split at f
      ·rename_i hn;cases I;rw [kaF hn] at C;refine R.q (λK f=>?_) (.int _ _) f;simp only [aop,kai,C,copyK,S,hz,B];exact ⟨A,f⟩
      ·exact kaa f
     ·exact kaa f
   ·exact kaa f
  ·exact kaa f
end
section
variable {P:Ye} {κ κ':Nat->Yb Nat} {ln ln':Nat->Nat} {z z':AH} {c:Cx sem} {s:TS sem} {env:Env} {h h':AH} {n n' N N':Nat}
variable {ρ:Ty} {Kf:TV sem->TS sem->sem.Ans ρ} {r:ρ.den}
variable {d:Yb Tmp} {ty:Yc} {pos:String} {after:Array Edge} {g:Yb (Nat×Bool)}
theorem kho {pl:Ya (Nat×Nat)} (f:∀ x,TVR P κ ln z N (tev c s x) (ev env x)):∀ (b:Ya (Nat×Yf)) (cs:Ya (TV sem)) (asZ:Ya AV) {vs:Ya (TV sem)},TVRs P κ ln z N cs asZ->(∀ a∈asZ,a.one=true)->fillT c pl s b cs=some vs->∃ bs,fillS pl env b asZ=some bs/\TVRs P κ ln z N vs bs/\∀ a∈bs,a.one=true
 | [],cs,asZ,vs,hc,h1,hf=>by cases hf; exact ⟨asZ,rfl,hc,h1⟩
 | (i,x)::rest,cs,asZ,vs,hc,h1,hf=>by
  simp only [fillT] at hf;split at hf
  ·rename_i o m xs hp k;split at hf
   ·rename_i hl;obtain ⟨l,g1,j⟩:=(f x).one_cells k;have t:=knL (f x) k g1;have l1:=j.len;have l2:=hc.len;obtain ⟨bs,k1,k2,k3⟩:=kho f rest _ (asZ.take o++l++asZ.drop (o+m)) (((hc.take o).append j).append (hc.drop _)) (λa e=>by
     rcases jay.1 e with e | e
     ·rcases jay.1 e with e | e
      ·exact h1 a (jdd e)
      ·exact t a e
     ·exact h1 a (jdf e)) hf
    refine ⟨bs,?_,k2,k3⟩;simp only [fillS,hp,g1];rw [if_pos ⟨by omega,by omega⟩]; exact k1
   ·cases hf
  ·cases hf
theorem krl {s s':TS sem} (a:s'.env=s.env) (x:Nat):tlk c s' x=tlk c s x:=by unfold tlk; rw [a]
theorem krb {s s':TS sem} (a:s'.env=s.env) (x:Yf):tev c s' x=tev c s x:=by cases x <;> simp [tev,krl a]
theorem kow (R:Rel P κ ln z c s env h n) {T:Yc} {b:Array (Nat×Yf)} (e:kpO P c s T b.toList Kf=some r):Res P κ ln z c s env h n ⟨d,.build T b,ty,pos,after,g⟩ Kf r:=by
 unfold kpO at e;split at e
 ·rename_i zs Ts pl hz hT hp;split at e
  ·rename_i hl;simp only at e;have f:=keT hz;obtain ⟨κ',ln',k,m,h2,y,l,t,_⟩:=kcW zs Ts R f hl;split at e
   ·rename_i vs u;have i:∀ x,TVR P κ' ln' z (zeroC P s zs Ts).2.n (tev c s x) (ev env x):=λx=>by rw [<-krb (c:=c) y]; exact k.ev x
    obtain ⟨bs,k1,k2,k3⟩:=kho i b.toList _ zs m (λa B=>by obtain ⟨v,rfl,A⟩:=f a B; exact A) u;exact ⟨.ag vs,_,.ag bs,h,n,κ',ln',z,λK e=>krq hz hp k1 e,e,k,.ag vs bs k2 k3,h2,λid j=>⟨l id j,λ_=>t id j⟩,λC=>by cases C⟩
   ·exact kaa e
  ·exact kaa e
 ·exact kaa e
theorem kgF (R:Rel P κ ln z c s env h n) {t:Ty} (C:t.dat=true):∀ (a:Ya (Nat×Yf)) (j:Nat) {ys:Ya t.den} {ids:Ya Nat} (len:Nat),len=j+a.length->kjf (A:=sem) c s t a j=some (ys,ids)->(∀ id∈ids,∃ B,thp c s id=some B)/\
  ∃ xs:Ya (Ya AV),xs.length=a.length/\(∀ es:Ya (Ya AV),es.length=len->fillE t.wd env a es=some (es.take j++xs))/\SnapE (hz (ows κ ln c s) h z ids) xs (ys.map t.enc)
 | [],j,ys,ids,len,hl,hp=>by
  cases hp;refine ⟨λid b=>by simp at b,[],rfl,λes m=>?_,rfl,λq e e' l=>by simp at l⟩;simp only [jdn,Nat.add_zero] at hl;simp [fillE,<-hl,<-m]
 | (i,x)::rest,j,ys,ids,len,hl,hp=>by
  simp only [kjf] at hp;split at hp
  ·rename_i u;subst u;simp only [jaa,jac] at hp;obtain ⟨⟨y,v⟩,J,⟨I,i2⟩,hr,m⟩:=hp;cases m;obtain ⟨H,g1,G⟩:=kbc R (R.ev x) J;obtain ⟨D,L,E⟩:=kfW H g1;obtain ⟨k0,xs,k1,k2,k3⟩:=kgF R C rest (i+1) len (by simp at hl; omega) hr;refine ⟨λid b=>?_,D::xs,by simp [k1],λes m=>?_,?_⟩
   ·rcases jay.1 b with b | b
    ·exact G id b
    ·exact k0 id b
   ·have f:i<es.length:=by simp at hl; omega
    simp only [fillE,L];rw [if_pos ⟨by rw [<-E.len,kaf t y C],f⟩,k2 (es.set i D) (by simpa using m)];congr 1;rw [List.take_set,jck f,List.set_append,if_neg (by simp; omega)];simp [jdm (Nat.le_of_lt f)]
   ·have K:=kcb (o:=ows κ ln c s) (h:=h) (z:=z) (ids:=v) (ids':=v++i2) R.zin (λid b=>by simp [b]);have F:=kcb (o:=ows κ ln c s) (h:=h) (z:=z) (ids:=i2) (ids':=v++i2) R.zin (λid b=>by simp [b]);have k3:=k3.mono F;refine ⟨by simp [k3.1],λq e e' l k=>?_⟩;cases q with
    | zero=>simp at l k; subst l; subst k; exact E.mono K
    | succ q=>exact k3.2 q e e' (by simpa using l) (by simpa using k)
  ·cases hp
theorem kkl (R:Rel P κ ln z c s env h n) {T:Yc} {len:Nat} {b:Array (Nat×Yf)} (f:kht P c s T len b.toList Kf=some r):Res P κ ln z c s env h n ⟨d,.buildSlice T len b,ty,pos,after,g⟩ Kf r:=by
 unfold kht at f;split at f
 ·exact kaa f
 ·rename_i e M;split at f
  ·rename_i t zs F hz;split at f
   ·rename_i C;obtain ⟨D,m,u⟩:=C;have x:=kcL F;split at f
    ·rename_i hl;split at f
     ·rename_i ys ids hp;split at f
      ·rename_i s' y;obtain ⟨k0,xs,k1,k2,k3⟩:=kgF R x b.toList 0 len (by omega) hp;obtain ⟨Q,e1,Y,e3,e4,X⟩:=R.retire y;have j:=k3.1;rw [jbb] at j;have i:∀ l:Ya t.den,lstD (A:=sem) t l=l:=by
        intro l;induction l with
        | nil=>rfl
        | cons a l S=>simp only [lstD]; rw [S]
       rw [i] at f;have k:=kfg (o:=⟨d,.buildSlice T len b,ty,pos,after,g⟩) rfl Q x k3 (k3.ones x) (λK f=>?_) f
       ·obtain ⟨G,I,v,h2,U,J,B,z2,g1,H,W,L,E⟩:=k;exact ⟨G,I,v,h2,U,J,B,z2,g1,H,W,L,by have:=E.1; omega,λid Z=>E.2.1 id (by omega),λC=>by cases C⟩
       ·simp only [aop,M,hz,u];rw [k2 (List.replicate len zs) (by simp)];simp only [jdi,jav];rw [u] at m;refine ⟨D,m,.inl ?_⟩;rw [show len=ys.length by omega]; exact f
      ·exact kaa f
     ·exact kaa f
    ·exact kaa f
   ·exact kaa f
  ·exact kaa f
theorem kpv (R:Rel P κ ln z c s env h n) {x y:Yf} {m:Int} (f:khz x y=true) (u:tev c s x = .c (.i .i64) m) (v:m<=1048576):ev env x = .sc (.int .i64 m)/\∃ l j,ev env y = .sc (.int l j)/\m<=j/\j<=1048576:=by
 have t:=R.ev x;rw [u] at t;have e:=t.i_inv;refine ⟨e,?_⟩;unfold khz at f;split at f
 ·rename_i a b;obtain rfl:a=b:=by simpa using f
  exact ⟨_,m,e,jds _,v⟩
 ·rename_i k a l b;rw [jad,jak,jak] at f;have:(Value.int k a) = .int .i64 m:=by simpa [ev,cst] using e
  cases this;exact ⟨l,b,rfl,f⟩
 ·cases f
theorem klo (R:Rel P κ ln z c s env h n) {T:Yc} {x y:Yf} (b:kif P s T (tev c s x) (tev c s y) (khz x y) Kf=some r):Res P κ ln z c s env h n ⟨d,.makeSlice T x y,ty,pos,after,g⟩ Kf r:=by
 unfold kif at b;split at b
 ·exact kaa b
 ·rename_i e W;split at b
  ·rename_i t zs m I hz U;split at b
   ·rename_i z0 C;split at b
    ·rename_i Z;obtain ⟨S,E,j,Y,J⟩:=Z;have v:=kcL I;simp only [jaa] at b;obtain ⟨l,k,b⟩:=b;obtain ⟨g1,M,k⟩:=krw k;obtain ⟨A,k',jc,G,Q,L⟩:=kpv R S U M;obtain ⟨rest,hr,D⟩:=(jcu _ _).1 E;obtain rfl:=jcw.1 D;obtain ⟨a,H,X⟩:=kct (z:=z) t z0 zs [] v C hr;rw [jbf] at H; subst H;have i:SnapE z (List.replicate m.toNat zs) (l.map t.enc):=by
      rw [k];refine ⟨by simp,λq e e' u f=>?_⟩;rw [jcz] at u;rw [List.map_replicate,jcz] at f;split at u
      ·rename_i B; rw [if_pos B] at f; cases u; cases f; exact X
      ·cases u
     refine kfg rfl R v i (i.ones v) (λK b=>?_) b;simp only [aop,W,hz,A,G];refine ⟨g1,Q,L,J,by rintro rfl; simp at j; omega,?_⟩;have F:l.length=m.toNat:=by rw [k]; simp
     rw [F] at b;rw [j]; exact b
    ·exact kaa b
   ·exact kaa b
  ·exact kaa b
theorem newMp (R:Rel P κ ln z c s env h n) {k v:Ty} (b:isKey k=true) (e:v.flat=true):Rel P (updK κ s.n (some n)) (updK ln s.n 0) z c { s with hp:=(s.n,some (.mp k v []))::s.hp,n:=s.n+1 } env (updH h n (.map [])) (n+1):=
 R.new (.mp k v []) (some n) 0 (λq B a=>by
   unfold updH; rw [if_neg]; ·exact a
   rintro rfl; rw [R.hn _ (jah _)] at a; cases a) (jbp _) (λq a=>by cases a; omega) (λq a=>by unfold updH; rw [if_neg (by omega)]; exact R.hn q (by omega))
  (.mp k v [] n b e updK_self (by simp [updH]))
theorem kmG (R:Rel P κ ln z c s env h n) {T:Yc} (a:kkX P s T Kf=some r):Res P κ ln z c s env h n ⟨d,.makeMap T none,ty,pos,after,g⟩ Kf r:=by
 unfold kkX at a;split at a
 ·split at a
  ·split at a
   ·rename_i b;obtain ⟨f,h2⟩:=b;exact ⟨.mp s.n,_,.mp n,_,_,_,_,_,λK a=>by simp only [aop]; exact a,a,newMp R f h2,.mp s.n n (jbk _) updK_self,jbp _,λid e=>⟨kao e,λ_=>kao e⟩,λb=>by cases b⟩
   ·exact kaa a
  ·exact kaa a
 ·exact kaa a
theorem kcq:∀ (k:Ty) (x:k.den),∀ v∈valsK k x,Scal v
 | .i _,x,v,h | .s,x,v,h | .b,x,v,h=>by simp [valsK] at h; subst h; trivial
 | .w a,x,v,h=>kcq a x v h
 | .pr a b,x,v,h=>by
  rcases jay.1 (show v∈valsK a x.1++valsK b x.2 from h) with h | h
  ·exact kcq a _ v h
  ·exact kcq b _ v h
 | .ar n a,x,v,h=>by
  obtain ⟨l,hl,e⟩:=List.mem_flatten.1 (show v∈(x.l.map (valsK a)).flatten from h);obtain ⟨y,_,rfl⟩:=jba.1 hl;exact kcq a y v e
 | .un,x,v,h | .nt,x,v,h | .sl _,x,v,h | .pt _,x,v,h | .op _,x,v,h | .sm _ _,x,v,h | .fn _ _ _,x,v,h=>by simp [valsK] at h
theorem koL {α β:Type} {f:α->Ya β} {m:Nat} (a:∀ x,(f x).length=m):∀ l:Ya α,(l.map f).flatten.length=l.length*m
 | []=>by simp
 | x::l=>by simp [a,koL a l,Nat.succ_mul,Nat.add_comm]
theorem kbX:∀ (k:Ty) (x:k.den),isKey k=true->(valsK k x).length=k.wd
 | .i _,_,_ | .s,_,_ | .b,_,_=>rfl
 | .w a,x,h=>kbX a x h
 | .pr a b,x,h=>by
  simp only [isKey,jad] at h;show (valsK a x.1++valsK b x.2).length=a.wd+b.wd;rw [jax,kbX a _ h.1,kbX b _ h.2]
 | .ar n a,x,h=>by
  show ((x.l.map (valsK a)).flatten).length=n*a.wd;rw [koL (λy=>kbX a y h),x.h]
theorem kpf {α β:Type} {f:α->Ya β} {m:Nat} (a:∀ x,(f x).length=m) (b:∀ x y,f x=f y->x=y):∀ l r:Ya α,l.length=r.length->(l.map f).flatten=(r.map f).flatten->l=r
 | [],[],_,_=>rfl
 | [],_::_,h,_=>by simp at h
 | _::_,[],h,_=>by simp at h
 | x::l,y::r,h,e=>by
  simp only [jat,List.flatten_cons] at e;obtain ⟨i,j⟩:=List.append_inj e (by rw [a,a]);rw [b x y i,kpf a b l r (by simpa using h) j]
theorem kfw:∀ (k:Ty) (x y:k.den),isKey k=true->valsK k x=valsK k y->x=y
 | .i _,x,y,_,h=>by simpa [valsK] using h
 | .s,x,y,_,h=>by
  simp only [valsK,List.cons.injEq,and_true] at h;have:=(ksZ x y);rw [show ks x=ks y from h] at this;exact of_decide_eq_true (this.symm.trans (by rw [ksZ]; simp))
 | .b,x,y,_,h=>by simpa [valsK] using h
 | .w a,x,y,hk,h=>kfw a x y hk h
 | .pr a b,x,y,hk,h=>by
  simp only [isKey,jad] at hk;obtain ⟨e,f⟩:=List.append_inj (show valsK a x.1++valsK b x.2=valsK a y.1++valsK b y.2 from h) (by rw [kbX a _ hk.1,kbX a _ hk.1]);exact Prod.ext (kfw a _ _ hk.1 e) (kfw b _ _ hk.2 f)
 | .ar n a,x,y,hk,h=>by
  have:=kpf (λz=>kbX a z hk) (λu v=>kfw a u v hk) x.l y.l (by rw [x.h,y.h]) h;cases x; cases y; simp only at this; subst this; rfl
theorem keh:∀ (k:Ty) (x:k.den),isKey k=true->k.enc x=(valsK k x).map .sc
 | .i _,_,_ | .s,_,_ | .b,_,_=>rfl
 | .w a,x,h=>keh a x h
 | .pr a b,x,h=>by
  simp only [isKey,jad] at h;show a.enc x.1++b.enc x.2=(valsK a x.1++valsK b x.2).map .sc;rw [jcr,keh a _ h.1,keh b _ h.2]
 | .ar n a,x,h=>by
  show (x.l.map a.enc).flatten=((x.l.map (valsK a)).flatten).map .sc;rw [List.map_flatten,List.map_map];congr 1;exact List.map_congr_left λy _=>keh a y h
theorem kke {k:Ty} (b:isKey k=true) (a:k.agg=true) (x:k.den):keyV k x = .agg (valsK k x).toArray:=by
 cases k <;> first | rfl | (simp [Ty.agg] at a; done)
theorem kjW {k:Ty} (b:isKey k=true) (a:k.agg=false) (x:k.den):valsK k x=[keyV k x]:=by
 cases k <;> first | rfl | (simp [Ty.agg] at a; done) | (simp [isKey] at b; done)
theorem krr {k:Ty} (f:isKey k=true) (a b:k.den):keyB (keyV k a) (keyV k b)=true↔a=b:=by
 have t:valsK k a=valsK k b↔a=b:=⟨kfw k a b f,λe=>by rw [e]⟩;cases i:k.agg with
 | true=>
  rw [kke f i,kke f i];show keyBL (valsK k a) (valsK k b)=true↔_;rw [klb (kcq k a) (kcq k b),t]
 | false=>
  have l:=kcq k a; have m:=kcq k b;rw [kjW f i] at l m;have j:=l _ (List.mem_singleton_self _);have u:=m _ (List.mem_singleton_self _);rw [ksN (by cases v:keyV k a <;> rw [v] at j <;> first | rfl | exact j.elim),kln j u,<-t,kjW f i,kjW f i];simp
theorem kil {k:Ty} (f:isKey k=true) (a b:k.den) [Decidable (a=b)]:keyB (keyV k a) (keyV k b)=decide (a=b):=by
 have:=krr f a b;by_cases h:a=b
 ·subst h; rw [(krr f a a).2 rfl]; simp
 ·have h2:¬ keyB (keyV k a) (keyV k b)=true:=λe=>h (this.1 e);rw [jcv] at h2; rw [h2]; simp [h]
theorem kmO {t:Ty} (a:t.agg=false) (b:isKey t=true):t.wd=1:=by
 cases t <;> first | rfl | (simp [Ty.agg] at a; done) | (simp [isKey] at b; done)
theorem kkR {b:Yc->Ty->Bool} {recC:Yc->Ya Yd->Prop} (a:∀ T t,b T t=true->∀ x:t.den,isKey t=true->recC T (valsK t x)):∀ (j:Ya Field) (o:Nat) (t:Ty) (x:t.den),keyFs P b j o t=true->isKey t=true->OkFs P recC j o (valsK t x)
 | [],o,t,x,h,_=>by simp [keyFs] at h
 | [f],o,t,x,h,hk=>by
  simp only [keyFs,jad,jak,bne_iff_ne,ne_eq] at h;obtain ⟨⟨⟨⟨l,h2⟩,i⟩,k⟩,m⟩:=h;exact ⟨valsK t x,[],by simp,l,h2,by rw [kbX t x hk,i],⟨_,k,λe=>by rw [i]; exact kmO e hk⟩,a _ _ m x hk,rfl⟩
 | f::g::j,o,t,x,h,hk=>by
  cases t <;> simp only [keyFs,jad,jak,bne_iff_ne,ne_eq,jal] at h;rename_i u v;obtain ⟨⟨⟨⟨⟨l,h2⟩,i⟩,k⟩,m⟩,y⟩:=h;simp only [isKey,jad] at hk;refine ⟨valsK u x.1,valsK v x.2,rfl,l,h2,by rw [kbX u _ hk.1,i],⟨_,k,λe=>by rw [i]; exact kmO e hk.1⟩,a _ _ m _ hk.1,?_⟩;rw [i];exact kkR a (g::j) _ v x.2 y hk.2
theorem kix:∀ (d:Nat) (T:Yc) (t:Ty),keyTF P d T t=true->∀ x:t.den,isKey t=true->OkC P d T (valsK t x)
 | 0,T,t,h,_,_=>by simp [keyTF] at h
 | d+1,T,t,h,x,a=>by
  unfold keyTF at h;unfold OkC;split at h
  ·rename_i hT; simp only [hT]; simp only [jak] at h; subst h; exact ⟨_,rfl⟩
  ·rename_i hT; simp only [hT]; simp only [jak] at h; subst h; exact ⟨_,rfl⟩
  ·rename_i hT; simp only [hT]; simp only [jak] at h; subst h; exact ⟨_,rfl⟩
  ·rename_i A hT;simp only [hT];simp only [jad,jbr] at h;refine ⟨h.1,?_⟩;have h2:=h.2;split at h2
   ·rename_i f u b;rw [b];exact kkR (λT t h x a=>kix d T t h x a) [f] 0 u x h2 a
   ·cases h2
   ·exact kkR (λT t h x a=>kix d T t h x a) _ 0 _ _ h2 a
  ·rename_i n e hT;simp only [hT];split at h
   ·rename_i m u;simp only [jad,jak] at h;obtain ⟨⟨⟨j,h2⟩,k⟩,i⟩:=h;refine ⟨⟨_,k,λe=>by rw [h2]; exact kmO e a⟩,x.l.map (valsK u),by rw [jbb,x.h,j],rfl,λc v=>?_⟩;obtain ⟨y,_,rfl⟩:=jba.1 v;exact ⟨by rw [kbX u y a,h2],kix d e u i y a⟩
   ·cases h
  ·cases h
theorem khL {kt:Yc} {k:Ty} (b:isKey k=true) (h:keyT P kt k=true) (a:k.den):kaR P kt (keyV k a):=by
 cases e:k.agg with
 | true=>
  have:aggO P kt=some true/\keyTF P 9 kt k=true:=by
   cases k <;> first | (simp [Ty.agg] at e; done) | (simp only [keyT,jad,jak] at h; exact ⟨h.1.2,h.2⟩)
  rw [kke b e];exact ⟨this.1,kix 9 kt k this.2 a b⟩
 | false=>
  cases k <;> first | (simp [Ty.agg] at e; done) | (simp [isKey] at b; done) | skip
  ·simpa [keyV,kaR,keyT] using h
  ·simpa [keyV,kaR] using kmu h
  ·simpa [keyV,kaR,ks] using kdf h
theorem kkV {z:AH}:∀ {l:Ya AV} {vs:Ya Yd},SnapL z l (vs.map .sc)->l=vs.map .sc
 | [],[],_=>rfl
 | [],_::_,h=>by cases h
 | _::_,[],h=>by cases h
 | a::l,v::vs,h=>by
  cases h with
  | cons b h2=>rw [b.sc_inv,kkV h2]; rfl
theorem ktI:∀ l:Ya Yd,scV (l.map .sc)=some l
 | []=>rfl
 | v::l=>by simp only [jat,scV,ktI l]; rfl
theorem klt {k:Ty} (b:isKey k=true) {v:TV sem} {a:AV} (R:Rel P κ ln z c s env h n) (i:TVR P κ ln z s.n v a) {x:k.den} {ids:Ya Nat} (j:snapV (A:=sem) c s k v=some (x,ids)):keyA a=some (keyV k x):=by
 obtain ⟨_,f,_⟩:=kbc R i j;cases e:k.agg with
 | true=>
  have:k.av x = .ag (k.enc x):=by unfold Ty.av; rw [if_pos e]
  rw [this] at f;obtain ⟨cs,rfl,h2⟩:=f.ag_inv;rw [keh k x b] at h2;rw [kkV h2,kke b e];show (scV _).map _=_;rw [ktI]; rfl
 | false=>
  have:k.av x = .sc (keyV k x):=by
   unfold Ty.av; rw [if_neg (by simp [e]),keh k x b,kjW b e]; rfl
  rw [this] at f;rw [f.sc_inv]; rfl
theorem kbR:∀ {v:Ty},v.flat=true->v.dat=true
 | .i _,_ | .b,_ | .s,_ | .un,_=>rfl
 | .w t,h=>kbR (v:=t) h
 | .pr t u,h=>by simp only [Ty.flat,jad] at h; simp [Ty.dat,kbR h.1,kbR h.2]
theorem khV:∀ (v:Ty) (x:v.den),v.flat=true->∃ vs:Ya Yd,v.enc x=vs.map .sc/\∀ w∈vs,w.oneCell'=true
 | .i k,x,_=>⟨[.int k x],rfl,by simp [Value.oneCell']⟩
 | .b,x,_=>⟨[.bool x],rfl,by simp [Value.oneCell']⟩
 | .s,x,_=>⟨[ks x],rfl,by simp [Value.oneCell']⟩
 | .un,x,_=>⟨[],rfl,by simp⟩
 | .w t,x,h=>khV t x h
 | .pr t u,x,h=>by
  simp only [Ty.flat,jad] at h;obtain ⟨a,j,g1⟩:=khV t x.1 h.1;obtain ⟨b,l,f⟩:=khV u x.2 h.2;refine ⟨a++b,by show t.enc x.1++u.enc x.2=_; rw [j,l,jcr],λw e=>?_⟩;rcases jay.1 e with e | e
  ·exact g1 w e
  ·exact f w e
theorem kfR {v:Ty} (b:v.flat=true) {x:v.den} {a:AV} {z:AH} (h:Snap z a (v.av x)):a=v.av x:=by
 obtain ⟨vs,e,_⟩:=khV v x b;cases f:v.agg with
 | true=>
  have j:v.av x = .ag (v.enc x):=by unfold Ty.av; rw [if_pos f]
  rw [j] at h ⊢;obtain ⟨cs,rfl,h2⟩:=h.ag_inv;rw [e] at h2 ⊢;rw [kkV h2]
 | false=>
  have:∃ w,v.av x = .sc w:=by
   cases v <;> simp [Ty.flat,Ty.agg] at b f <;> exact ⟨_,rfl⟩
  obtain ⟨w,i⟩:=this;rw [i] at h ⊢;exact h.sc_inv
theorem kmQ {v:Ty} (a:v.flat=true) (x:v.den):(v.av x).vl=true:=by
 cases v <;> simp [Ty.flat] at a <;> rfl
theorem zv_ok {e:Yc} {v:Ty} (j:v.flat=true) {z0:v.den} (hz:zeroD (A:=sem) v=some z0) (b:(zvO P e).any (zvOk v)=true):∃ u,zvO P e=some u/\cst u=v.av z0:=by
 obtain ⟨u,t,b⟩:=(jcu _ _).1 b;refine ⟨u,t,?_⟩;unfold zvOk at b;split at b
 ·rename_i cs m;simp only [jad] at b;obtain ⟨rest,hr,i⟩:=(jcu _ _).1 b.2;obtain rfl:=jcw.1 i;obtain ⟨a,k,f⟩:=kct (z:=λ_=>none) v z0 _ _ (kbR j) hz hr;rw [jbf] at k; subst k;rw [m];refine kfR j (z:=λ_=>none) ?_;have:v.av z0 = .ag (v.enc z0):=by unfold Ty.av; rw [if_pos b.1]
  rw [this]; exact .agL f
 ·rename_i w l;simp only [jad,jbr] at b;obtain ⟨rest,hr,i⟩:=(jcu _ _).1 b.2;obtain rfl:=jcw.1 i;obtain ⟨a,k,f⟩:=kct (z:=λ_=>none) v z0 _ _ (kbR j) hz hr;rw [jbf] at k; subst k;rw [l];rw [kdN b.1 (kbR j)] at f;cases f with
  | cons k1 _=>exact kfR j k1
 ·cases b
theorem kmE {k:Ty} {β:Type} (a:isKey k=true) (l:Ya (k.den×β)) (x:k.den):mgetT k l x = @mget _ _ (kbj k a) l x:=by
 unfold mgetT; rw [dif_pos a]
theorem kvb {k:Ty} {β:Type} (a:isKey k=true) (l:Ya (k.den×β)) (x:k.den) (v:β):mputT k l x v = @mput _ _ (kbj k a) l x v:=by
 unfold mputT; rw [dif_pos a]
theorem kom (R:Rel P κ ln z c s env h n) {T:Yc} {m key:Yf} {ok:Bool} {u v:TV sem} (G:TVR P κ ln z s.n u (ev env m)) (S:TVR P κ ln z s.n v (ev env key)) (f:kne P c s T u v ok Kf=some r):Res P κ ln z c s env h n ⟨d,.lookup T m key ok,ty,pos,after,g⟩ Kf r:=by
 unfold kne at f;split at f
 ·rename_i id;split at f
  ·rename_i k w l kt e hB hT;split at f
   ·rename_i x z0 M B;simp only at f;split at f
    ·rename_i U;obtain ⟨j,c2,c3,c5⟩:=U;have I:=kbR c3;obtain ⟨Q,C,E⟩:=zv_ok c3 B c5;have t:=klt j R S M;generalize H:ev env m=a at G;cases R.blk _ _ hB with
     | mp _ _ _ q _ _ J L=>
      cases G with
      | mp _ W hN A=>
       rw [J] at A; cases A;have D:h q=some (.map (List.map (kvE (keyV k) w.av) l)):=L;have i:∀ y:w.den,TVR P κ ln z s.n (.c w y) (w.av y):=λy=>.free I;have key:=λ(F:AV->Prop) hF=>@lkK P h _ _ (kbj k j) T kt e q (ev env key) l (keyV k) w.av x z0 Q ok F t hT C E (λa b=>@kil _ j a b (kbj k j a b)) (khL j c2) D hF;cases ok with
       | true=>
        simp only [if_true] at f;refine R.q (λK f=>?_) (.tp _ [w.av ((mgetT k l x).getD z0),.sc (.bool (mgetT k l x).isSome)] (.cons _ _ _ _ (i _) (.cons _ _ _ _ (.bool _) .nil))) f;simp only [aop,H];refine key _ ?_;simp only [if_true];rw [<-kmE j]; exact f
       | false=>
        simp only [jal,if_false] at f;refine R.q (λK f=>?_) (i _) f;simp only [aop,H];refine key _ ?_;simp only [jal,if_false];rw [<-kmE j]; exact f
    ·exact kaa f
   ·exact kaa f
  ·exact kaa f
 ·exact kaa f
theorem koo (R:Rel P κ ln z c s env h n) {T:Yc} {m key x:Yf} {u v w:TV sem} (L:TVR P κ ln z s.n u (ev env m)) (Y:TVR P κ ln z s.n v (ev env key)) (M:TVR P κ ln z s.n w (ev env x)) (j:kmW P c s T u v w Kf=some r):Res P κ ln z c s env h n ⟨d,.mapUpdate T m key x,ty,pos,after,g⟩ Kf r:=by
 unfold kmW at j;split at j
 ·rename_i id;split at j
  ·rename_i k w' l kt e hB hT;split at j
   ·rename_i y D Q H;split at j
    ·rename_i J;obtain ⟨t,c2⟩:=J;have A:=klt t R Y Q;generalize W:ev env m=a at L;cases R.blk _ _ (kab hB) with
     | mp _ _ _ q _ F E S=>
      cases L with
      | mp _ Z hN C=>
       rw [E] at C; cases C;obtain ⟨_,G,_⟩:=kbc R M H;have B:ev env x=w'.av D:=kfR F G;have I:h q=some (.map (List.map (kvE (keyV k) w'.av) l)):=S;have f:=@khb _ _ (kbj k t) _ w'.av (λa b=>@kil _ t a b (kbj k t a b)) y D l [];refine ⟨.ud,_,.ud,updH h q (.map ((mputT k l y D).map (kvE (keyV k) w'.av))),n,κ,ln,z,λK j=>?_,j,R.set hB E (.mp k w' _ q t F E (by simp only [updH,if_true])),.ud,jah _,λ_ _=>⟨rfl,λ_=>rfl⟩,λJ=>by cases J⟩;simp only [aop,W,B,kdv,A,hT,I];refine ⟨khL t c2 y,λx U=>?_,kmQ F D,?_⟩
       ·obtain ⟨p,_,rfl⟩:=jba.1 U; exact khL t c2 _
       ·rw [kvb t] at j;simp only [jdn,jav] at f;generalize findA (keyV k y) (List.map (kvE (keyV k) w'.av) l) 0=X at f ⊢;cases X with
        | none=>simp only at f ⊢; rw [f]; exact j
        | some q=>obtain ⟨i,a⟩:=q; simp only at f ⊢; rw [f]; exact j
    ·exact kaa j
   ·exact kaa j
  ·exact kaa j
 ·exact kaa j
theorem knJ {κ β:Type} [DecidableEq κ] {kf:κ->Yd} {vf:β->AV} (e:∀ a b,keyB (kf a) (kf b)=decide (a=b)) (k:κ):∀ (E:Ya (κ×β)) (i:Nat),findA (kf k) (E.map (kvE kf vf)) i=(mget E k).map λv=>(i+midxN k E,vf v)
 | [],i=>rfl
 | p::r,i=>by
  simp only [jat,findA,mget,midxN,e,jak];split
  ·rfl
  ·rw [knJ e k r (i+1)];cases mget r k with
   | none=>rfl
   | some v=>simp only [jcb]; congr 2; omega
theorem klC {κ β:Type} [DecidableEq κ] (k:κ):∀ (E:Ya (κ×β)),mget E k=none->midxN k E=E.length
 | [],_=>rfl
 | p::r,h=>by
  simp only [mget] at h;split at h
  ·cases h
  ·rename_i a; simp only [midxN,if_neg a,klC k r h,jbt]
theorem kop (R:Rel P κ ln z c s env h n) {T:Yc} {m key:Yf} {u v:TV sem} (L:TVR P κ ln z s.n u (ev env m)) (hv:TVR P κ ln z s.n v (ev env key)) (f:knk P c s T u v Kf=some r):Res P κ ln z c s env h n ⟨d,.mapEntry T m key,ty,pos,after,g⟩ Kf r:=by
 unfold knk at f;split at f
 ·rename_i id;split at f
  ·rename_i k w l kt e hB hT;split at f
   ·rename_i x z0 E B;split at f
    ·rename_i H;obtain ⟨i,c2,c3,c5⟩:=H;have Q:=kbR c3;obtain ⟨zv,D,I⟩:=zv_ok c3 B c5;have t:=klt i R hv E;generalize X:ev env m=a at L;cases R.blk _ _ (kab hB) with
     | mp _ _ _ q _ J C W=>
      cases L with
      | mp _ q' hN A=>
       rw [C] at A; cases A;have G:h q=some (.map (List.map (kvE (keyV k) w.av) l)):=W;have j:∀ y:w.den,TVR P κ ln z s.n (.c w y) (w.av y):=λy=>.free Q;have F:=@knJ _ _ (kbj k i) _ w.av (λa b=>@kil _ i a b (kbj k i a b)) x l 0;refine ⟨_,_,.tp [w.av ((mgetT k l x).getD z0),.sc (.int .i64 (midxT k l x))],updH h q (.map ((mentT k l x z0).map (kvE (keyV k) w.av))),n,κ,ln,z,λK f=>?_,f,R.set hB C (.mp k w _ q i J C (by simp only [updH,if_true])),.tp _ _ (.cons _ _ _ _ (j _) (.cons _ _ _ _ (.int _ _) .nil)),jah _,λ_ _=>⟨rfl,λ_=>rfl⟩,λH=>by cases H⟩;simp only [aop,X,khN,t,hT,G];refine ⟨khL i c2 x,λx E=>?_,?_⟩
       ·obtain ⟨p,_,rfl⟩:=jba.1 E; exact khL i c2 _
       ·rw [F];have Y:mgetT k l x = @mget _ _ (kbj k i) l x:=kmE i l x;have S:midxT k l x=((@midxN _ _ (kbj k i) x l:Nat):Int):=by unfold midxT; rw [dif_pos i]; rfl
        have Z:mentT k l x z0 = @ment _ _ (kbj k i) l x z0:=by unfold mentT; rw [dif_pos i]
        rw [Y,S,Z] at f;unfold ment at f;have M:=@klC _ w.den (kbj k i) x l;generalize @mget _ _ (kbj k i) l x=U at f M ⊢;cases U with
        | some v0=>
         simp only [jcb,jcc,jce] at f ⊢;exact f
        | none=>
         simp only [Option.map_none,Option.getD_none,D] at f ⊢;rw [M rfl] at f;rw [I];refine ⟨kmQ J _,?_⟩;rw [jcr] at f;simpa using f
    ·exact kaa f
   ·exact kaa f
  ·exact kaa f
 ·exact kaa f
theorem kqr (R:Rel P κ ln z c s env h n) {T:Yc} {m st x:Yf} {u v w:TV sem} (H:TVR P κ ln z s.n u (ev env m)) (I:TVR P κ ln z s.n v (ev env st)) (Q:TVR P κ ln z s.n w (ev env x)) (e:kpI c s u v w Kf=some r):Res P κ ln z c s env h n ⟨d,.entryStore T m st x,ty,pos,after,g⟩ Kf r:=by
 unfold kpI at e;split at e
 ·rename_i id;split at e
  ·rename_i k w' l hB;split at e
   ·rename_i i C y F;obtain ⟨X,L,e⟩:=jaa.1 e;generalize W:ev env m=a at H;cases R.blk _ _ (kab hB) with
    | mp _ _ _ q M D B S=>
     cases H with
     | mp _ Z hN t=>
      rw [B] at t; cases t;obtain ⟨_,E,_⟩:=kbc R Q F;have j:ev env x=w'.av C:=kfR D E;have A:ev env st = .sc (.int .i64 i):=by
       unfold kcU at y;split at y
       ·cases y;generalize ev env st=b at I;cases I with
        | c _ _ _ _ U=>exact U.sc_inv
       ·cases y
      have G:h q=some (.map (List.map (kvE (keyV k) w'.av) l)):=S;obtain ⟨J,f⟩:=kmk L;refine ⟨.ud,_,.ud,updH h q (.map ((mset l i C).map (kvE (keyV k) w'.av))),n,κ,ln,z,λK e=>?_,e,R.set hB B (.mp k w' _ q M D B (by simp only [updH,if_true])),.ud,jah _,λ_ _=>⟨rfl,λ_=>rfl⟩,λY=>by cases Y⟩;simp only [aop,W,j,A,kjx,G];refine ⟨J,kmQ D C,kvE (keyV k) w'.av X,by rw [jas,f]; rfl,?_⟩;unfold mset at e;rw [f] at e;simp only at e;rw [List.map_set] at e;exact e
   ·exact kaa e
  ·exact kaa e
 ·exact kaa e
end
section
variable {P:Ye} {κ κ':Nat->Yb Nat} {ln ln':Nat->Nat} {z z':AH} {c:Cx sem} {s:TS sem} {env:Env} {h h':AH} {n n' N N':Nat}
mutual
theorem TVR.has_lt:∀ {v:TV sem} {a:AV},TVR P κ ln z N v a->∀ id,v.has id=true->id<N
 | _,_,.un _,id,h | _,_,.gs _ _,id,h | _,_,.ud,id,h | _,_,.c _ _ _ _ _,id,h | _,_,.kb _,id,h | _,_,.sc _ _,id,h | _,_,.fq _ _ _ _ _ _,id,h | _,_,.cv _ _ _ _ _ _,id,h=>by simp [TV.has] at h
 | _,_,.ptr i j q hN _,id,h | _,_,.adr i _ j q hN _ _ _,id,h | _,_,.aa i _ q hN _ _ _,id,h | _,_,.ax i _ _ q hN _ _ _ _,id,h | _,_,.mw0 i hN _,id,h | _,_,.mw i q hN _,id,h | _,_,.ms0 i _ _ hN _ _ _,id,h | _,_,.ms i _ _ q hN _ _ _ _,id,h | _,_,.mp i q hN _,id,h | _,_,.fw0 i hN _,id,h | _,_,.fw i q hN _,id,h | _,_,.fr0 i _ _ hN _ _,id,h | _,_,.fr i _ _ _ hN _ _,id,h | _,_,.fo i _ _ _ hN _ _ _,id,h | _,_,.fs0 i _ _ hN _ _ _,id,h | _,_,.fs i _ _ q hN _ _ _ _,id,h | _,_,.fa i _ _ _ _ _ hN _ _ _ _,id,h | _,_,.yl i _ hN _,id,h | _,_,.kp i hN,id,h | _,_,.np0 i hN,id,h | _,_,.np i _ hN _,id,h=>by
  simp only [TV.has,beq_iff_eq] at h; omega
 | _,_,.fn g vs asZ hs,id,h=>TVRs.has_lt hs id h
 | _,_,.tp vs asZ hs,id,h=>TVRs.has_lt hs id h
 | _,_,.ag vs asZ hs _,id,h=>TVRs.has_lt hs id h
theorem TVRs.has_lt:∀ {vs:Ya (TV sem)} {asZ:Ya AV},TVRs P κ ln z N vs asZ->∀ id,TV.has.hasL id vs=true->id<N
 | _,_,.nil,id,h=>by simp [TV.has.hasL] at h
 | _,_,.cons v a vs asZ hv hs,id,h=>by
  simp only [TV.has.hasL,jbe] at h;rcases h with h | h
  ·exact TVR.has_lt hv id h
  ·exact TVRs.has_lt hs id h
end
mutual
theorem TVR.congr:∀ {v:TV sem} {a:AV},TVR P κ ln z N v a->(∀ id,v.has id=true->κ' id = κ id/\ln' id=ln id/\id<N')->(∀ q B,z q=some B->z' q=some B)->TVR P κ' ln' z' N' v a
 | _,_,.un a,_,_=>.un a
 | _,_,.ud,_,_=>.ud
 | _,_,.gs t l,_,_=>.gs t l
 | _,_,.yl id q u h,hc,_=>by obtain ⟨f,h2,e⟩:=hc id (by simp [TV.has]); exact .yl id q e (by rw [f]; exact h)
 | _,_,.kp id u,hc,_=>by obtain ⟨f,h2,e⟩:=hc id (by simp [TV.has]); exact .kp id e
 | _,_,.np0 id u,hc,_=>by obtain ⟨f,h2,e⟩:=hc id (by simp [TV.has]); exact .np0 id e
 | _,_,.np id q u h,hc,_=>by obtain ⟨f,h2,e⟩:=hc id (by simp [TV.has]); exact .np id q e (by rw [f]; exact h)
 | _,_,.c t x a hd h,_,hz=>.c t x a hd (h.mono hz)
 | _,_,.kb b,_,_=>.kb b
 | _,_,.sc v f,_,_=>.sc v f
 | _,_,.ptr id j q u h,hc,_=>by obtain ⟨f,h2,e⟩:=hc id (by simp [TV.has]); exact .ptr id j q e (by rw [f]; exact h)
 | _,_,.adr id i j q u h g0 g1,hc,_=>by obtain ⟨f,h2,e⟩:=hc id (by simp [TV.has]); exact .adr id i j q e (by rw [f]; exact h) g0 (by rw [h2]; exact g1)
 | _,_,.aa id i q u h g0 g1,hc,_=>by obtain ⟨f,h2,e⟩:=hc id (by simp [TV.has]); exact .aa id i q e (by rw [f]; exact h) g0 (by rw [h2]; exact g1)
 | _,_,.ax id i k q u h g0 g1 g2,hc,_=>by obtain ⟨f,h2,e⟩:=hc id (by simp [TV.has]); exact .ax id i k q e (by rw [f]; exact h) g0 (by rw [h2]; exact g1) g2
 | _,_,.fq t x o a hd h,_,hz=>.fq t x o a hd (h.mono hz)
 | _,_,.mw0 id u h,hc,_=>by obtain ⟨f,h2,e⟩:=hc id (by simp [TV.has]); exact .mw0 id e (by rw [f]; exact h)
 | _,_,.mw id q u h,hc,_=>by obtain ⟨f,h2,e⟩:=hc id (by simp [TV.has]); rw [<-h2]; exact .mw id q e (by rw [f]; exact h)
 | _,_,.ms0 id o l u h ho hl,hc,_=>by obtain ⟨f,h2,e⟩:=hc id (by simp [TV.has]); exact .ms0 id o l e (by rw [f]; exact h) ho hl
 | _,_,.ms id o l q u h g0 g1 g2,hc,_=>by obtain ⟨f,h2,e⟩:=hc id (by simp [TV.has]); exact .ms id o l q e (by rw [f]; exact h) g0 g1 (by rw [h2]; exact g2)
 | _,_,.mp id q u h,hc,_=>by obtain ⟨f,h2,e⟩:=hc id (by simp [TV.has]); exact .mp id q e (by rw [f]; exact h)
 | _,_,.fw0 id u h,hc,_=>by obtain ⟨f,h2,e⟩:=hc id (by simp [TV.has]); exact .fw0 id e (by rw [f]; exact h)
 | _,_,.fw id q u h,hc,_=>by obtain ⟨f,h2,e⟩:=hc id (by simp [TV.has]); rw [<-h2]; exact .fw id q e (by rw [f]; exact h)
 | _,_,.fr0 id i m u h0 h,hc,_=>by obtain ⟨f,h2,e⟩:=hc id (by simp [TV.has]); exact .fr0 id i m e h0 (by rw [h2]; exact h)
 | _,_,.fr id i r m u h0 h,hc,_=>by obtain ⟨f,h2,e⟩:=hc id (by simp [TV.has]); exact .fr id i r m e h0 (by rw [h2]; exact h)
 | _,_,.fs0 id o l u h ho hl,hc,_=>by obtain ⟨f,h2,e⟩:=hc id (by simp [TV.has]); exact .fs0 id o l e (by rw [f]; exact h) ho hl
 | _,_,.fs id o l q u h g0 g1 g2,hc,_=>by obtain ⟨f,h2,e⟩:=hc id (by simp [TV.has]); exact .fs id o l q e (by rw [f]; exact h) g0 g1 (by rw [h2]; exact g2)
 | _,_,.fo id i j q u h g0 g1,hc,_=>by obtain ⟨f,h2,e⟩:=hc id (by simp [TV.has]); exact .fo id i j q e (by rw [f]; exact h) g0 (by rw [h2]; exact g1)
 | _,_,.fa id i k o r m u h0 h hk hm,hc,_=>by obtain ⟨f,h2,e⟩:=hc id (by simp [TV.has]); exact .fa id i k o r m e h0 (by rw [h2]; exact h) hk hm
 | _,_,.fn g vs asZ h,hc,hz=>.fn g vs asZ (TVRs.congr h (λid u=>hc id u) hz)
 | _,_,.cv m x y F a h,_,_=>.cv m x y F a h
 | _,_,.tp vs asZ h,hc,hz=>.tp vs asZ (TVRs.congr h (λid u=>hc id u) hz)
 | _,_,.ag vs asZ h f,hc,hz=>.ag vs asZ (TVRs.congr h (λid u=>hc id u) hz) f
theorem TVRs.congr:∀ {vs:Ya (TV sem)} {asZ:Ya AV},TVRs P κ ln z N vs asZ->(∀ id,TV.has.hasL id vs=true->κ' id = κ id/\ln' id=ln id/\id<N')->(∀ q B,z q=some B->z' q=some B)->TVRs P κ' ln' z' N' vs asZ
 | _,_,.nil,_,_=>.nil
 | _,_,.cons v a vs asZ h hs,hc,hz=>.cons v a vs asZ (TVR.congr h (λid b=>hc id (by simp [TV.has.hasL,b])) hz) (TVRs.congr hs (λid b=>hc id (by simp [TV.has.hasL,b])) hz)
end
theorem BR.congr {id:Nat} {B:TB sem} (D:BR P κ ln z h N id B) (b:κ' id = κ id/\ln' id=ln id) (K:∀ i,B.has i=true->κ' i = κ i/\ln' i=ln i/\i<N') (hz:∀ q B,z q=some B->z' q=some B):BR P κ' ln' z' h N' id B:=by
 cases D with
 | bx T vs q asZ a hB y m=>exact .bx T vs q asZ (by rw [b.1]; exact a) hB (y.congr (λi h=>K i h) hz) m
 | el T t x q cs f a hB y m hl=>exact .el T t x q cs f (by rw [b.1]; exact a) hB (y.mono hz) m (by rw [b.2]; exact hl)
 | sl0 T t l f a hl hn=>exact .sl0 T t l f (by rw [b.1]; exact a) hl (by rw [b.2]; exact hn)
 | sl T t l q es f a hB y m hn=>exact .sl T t l q es f (by rw [b.1]; exact a) hB (y.mono hz) m (by rw [b.2]; exact hn)
 | mp k v l q E H a hB=>exact .mp k v l q E H (by rw [b.1]; exact a) hB
 | si x q a A hB=>exact .si x q (by rw [b.1]; exact a) A hB
 | km l q a hB=>exact .km l q (by rw [b.1]; exact a) hB
 | fm0 T t j U u l C f a hl hn=>exact .fm0 T t j U u l C f (by rw [b.1]; exact a) hl (by rw [b.2]; exact hn)
 | fm T t j U u l C q es f a hB hn hl y A m=>exact .fm T t j U u l C q es f (by rw [b.1]; exact a) hB (by rw [b.2]; exact hn) hl (λi x e I h2 J F G=>(y i x e I h2 J (by rw [<-b.2]; exact F) G).mono hz λ_ _ _ h=>h) (by rw [b.2]; exact A.mono hz) m
theorem BR.has_lt {id:Nat} {B:TB sem} (e:BR P κ ln z h N id B):∀ i,B.has i=true->i<N:=by
 intro i a;cases e with
 | bx T vs q asZ f hB b j=>exact b.has_lt i a
 | _=>simp [TB.has] at a
structure MExt (m m':Mt sem):Prop where
 ids:∀ p q,alk m.ids p=some q->alk m'.ids p=some q
 sn:∀ x∈m.sn,x∈m'.sn
theorem MExt.refl (m:Mt sem):MExt m m:=⟨λ_ _ h=>h,λ_ h=>h⟩
theorem MExt.trans {m b a:Mt sem} (h:MExt m b) (g:MExt b a):MExt m a:=⟨λp q e=>g.ids p q (h.ids p q e),λx e=>g.sn x (h.sn x e)⟩
theorem kdu {m j:Mt sem} {p q:Nat} (h:m.bindId p q=some j):MExt m j/\alk j.ids p=some q/\j.cs=m.cs/\j.sn=m.sn/\(∀ x y a,alk j.ids x=some a->alk j.ids y=some a->(∀ x y a,alk m.ids x=some a->alk m.ids y=some a->x=y)->x=y):=by
 unfold Mt.bindId at h;split at h
 ·rename_i B u;split at h
  ·rename_i e; cases h; subst e;exact ⟨.refl _,u,rfl,rfl,λx y a i b v=>v x y a i b⟩
  ·cases h
 ·rename_i u;split at h
  ·rename_i f;cases h;have k:∀ (l:Ya (Nat×Nat)) (x a:Nat),alk l x=some a->∃ y∈l,y.2=a:=by
    intro l;induction l with
    | nil=>intro x a h; simp [alk] at h
    | cons y l A=>
     intro x a h;simp only [alk] at h;split at h
     ·cases h; exact ⟨y,by simp,rfl⟩
     ·obtain ⟨w,t,e⟩:=A x a h; exact ⟨w,by simp [t],e⟩
   refine ⟨⟨λE B e=>?_,λx h=>h⟩,by simp [alk],rfl,rfl,λx y a i b v=>?_⟩
   ·simp only [alk];rw [if_neg (by rintro rfl; rw [u] at e; cases e)]; exact e
   ·simp only [alk] at i b;split at i
    ·rename_i D;split at b
     ·rename_i C; omega
     ·cases i;obtain ⟨w,t,e⟩:=k _ _ _ b;have:=jap.1 f w t;simp [e] at this
    ·split at b
     ·cases b;obtain ⟨w,t,e⟩:=k _ _ _ i;have:=jap.1 f w t;simp [e] at this
     ·exact v x y a i b
  ·cases h
structure Fin (o:Nat->List Nat) (κ:Nat->Option Nat) (ln:Nat->Nat) (h z:AH) (m:Mt sem) (κ2:Nat->Option Nat) (ln2:Nat->Nat) (z2:AH) (N2:Nat):Prop where
 k:∀ p q,alk m.ids p=some q->κ2 p = κ q/\ln2 p=ln q/\p<N2
 z:∀ q B,hz o h z m.sn q=some B->z2 q=some B
theorem Fin.back {o:Nat->Ya Nat} {m t:Mt sem} {l:Nat->Yb Nat} {a:Nat->Nat} {z2:AH} {j:Nat} (b:∀ q B,z q=some B->h q=some B) (e:MExt m t) (f:Fin o κ ln h z t l a z2 j):Fin o κ ln h z m l a z2 j:=
 ⟨λp q i=>f.k p q (e.ids p q i),λq B i=>f.z q B (kcb b e.sn q B i)⟩
def Inj (m:Mt sem):Prop:=∀ x y a,alk m.ids x=some a->alk m.ids y=some a->x=y
mutual
theorem knD (R:Rel P κ ln z c s env h n):∀ (pv:PV) {v:TV sem} {a:AV} {m D:Mt sem},TVR P κ ln z s.n v a->mtV c s pv v m=some D->
  ∃ new,D.cs=m.cs++new/\MExt m D/\(Inj m->Inj D)/\∀ I A z2 H,Fin (ows κ ln c s) κ ln h z D I A z2 H->∀ rest,∃ X,unV pv (new++rest)=(X,rest)/\TVR P I A z2 H X a
 | .un,v,a,m,D,hv,b=>by simp only [mtV,Option.some.injEq] at b; subst b; exact ⟨[],by simp,.refl _,id,λ_ _ _ _ _ rest=>⟨.un,rfl,.un a⟩⟩
 | .ud,v,a,m,D,hv,b=>by
  cases v <;> simp only [mtV,Option.some.injEq,reduceCtorEq] at b;subst b; cases hv;exact ⟨[],by simp,.refl _,id,λ_ _ _ _ _ rest=>⟨.ud,rfl,.ud⟩⟩
 | .gs t,v,a,m,D,hv,b=>by
  cases v <;> simp only [mtV,jac,reduceCtorEq] at b;rename_i t' l;obtain ⟨y,F,rfl⟩:=b;obtain ⟨e,rfl⟩:=kaj F;cases e;cases hv;exact ⟨[⟨.sl t,l⟩],rfl,⟨λ_ _ h=>h,λx G=>G⟩,id,λ_ _ _ _ _ rest=>⟨.gs t l,by simp [unV,tcast],.gs t l⟩⟩
 | .c t,v,a,m,D,hv,b=>by
  simp only [mtV,jac] at b;obtain ⟨y,F,rfl⟩:=b;obtain ⟨Y,C,h2⟩:=kbc R hv F;refine ⟨[⟨t,y.1⟩],rfl,⟨λ_ _ h=>h,λx G=>by simp [G]⟩,id,λI A z2 H f rest=>⟨.c t y.1,rfl,.c t y.1 a Y (C.mono λq B E=>f.z q B (kcb R.zin (λi J=>by simp [J]) q B E))⟩⟩
 | .sc u,v,a,m,D,hv,b=>by
  cases v <;> simp only [mtV,jdc,Option.some.injEq,reduceCtorEq] at b;rename_i w;obtain ⟨hc,rfl⟩:=b;cases hv with
  | sc _ Z=>
   have e:u=w:=by
    rcases hc with ⟨C,h2⟩ | ⟨C,h2⟩ | ⟨C,h2⟩
    ·rw [kaF C,kaF h2]
    ·rw [khf C,khf h2]
    ·rw [knZ C,knZ h2]
   rw [e];exact ⟨[],by simp,.refl _,id,λ_ _ _ _ _ rest=>⟨.sc w,rfl,.sc w Z⟩⟩
 | .ptr p j,v,a,m,D,hv,b=>by
  cases v <;> simp only [mtV,jdc,reduceCtorEq] at b;obtain ⟨rfl,b⟩:=b;obtain ⟨C,h2,M,Q,L⟩:=kdu b;cases hv with
  | ptr id j q hN E=>exact ⟨[],by simp [M],C,λJ x y a G F=>L x y a G F J,λI A z2 H f rest=>⟨.ptr p j,rfl,by obtain ⟨k1,k2,k3⟩:=f.k p _ h2; exact .ptr p j q k3 (by rw [k1]; exact E)⟩⟩
 | .mw p,v,a,m,D,hv,b=>by
  cases v <;> simp only [mtV,reduceCtorEq] at b;obtain ⟨C,h2,M,Q,L⟩:=kdu b;refine ⟨[],by simp [M],C,λJ x y a G F=>L x y a G F J,λI A z2 H f rest=>⟨.mw p,rfl,?_⟩⟩;obtain ⟨k1,k2,k3⟩:=f.k p _ h2;cases hv with
  | mw0 _ hN E=>exact .mw0 p k3 (by rw [k1]; exact E)
  | mw _ q hN E=>rw [<-k2]; exact .mw p q k3 (by rw [k1]; exact E)
 | .mp p,v,a,m,D,hv,b=>by
  cases v <;> simp only [mtV,reduceCtorEq] at b;obtain ⟨C,h2,M,Q,L⟩:=kdu b;cases hv with
  | mp id q hN E=>exact ⟨[],by simp [M],C,λJ x y a G F=>L x y a G F J,λI A z2 H f rest=>⟨.mp p,rfl,by obtain ⟨k1,k2,k3⟩:=f.k p _ h2; exact .mp p q k3 (by rw [k1]; exact E)⟩⟩
 | .fw p,v,a,m,D,hv,b=>by
  cases v <;> simp only [mtV,reduceCtorEq] at b;obtain ⟨C,h2,M,Q,L⟩:=kdu b;refine ⟨[],by simp [M],C,λJ x y a G F=>L x y a G F J,λI A z2 H f rest=>⟨.fw p,rfl,?_⟩⟩;obtain ⟨k1,k2,k3⟩:=f.k p _ h2;cases hv with
  | fw0 _ hN E=>exact .fw0 p k3 (by rw [k1]; exact E)
  | fw _ q hN E=>rw [<-k2]; exact .fw p q k3 (by rw [k1]; exact E)
 | .np p,v,a,m,D,hv,b=>by
  cases v <;> simp only [mtV,reduceCtorEq] at b;obtain ⟨C,h2,M,Q,L⟩:=kdu b;refine ⟨[],by simp [M],C,λJ x y a G F=>L x y a G F J,λI A z2 H f rest=>⟨.np p,rfl,?_⟩⟩;obtain ⟨k1,k2,k3⟩:=f.k p _ h2;cases hv with
  | np0 _ hN=>exact .np0 p k3
  | np _ q hN E=>exact .np p q k3 (by rw [k1]; exact E)
 | .fn g vs,v,a,m,D,hv,b=>by
  cases v <;> simp only [mtV,jdc,reduceCtorEq] at b;obtain ⟨rfl,b⟩:=b;cases hv with
  | fn _ us asZ U=>
   obtain ⟨new,g1,S,W,T⟩:=kgX R vs U b;refine ⟨new,g1,S,W,λI A z2 H f rest=>?_⟩;obtain ⟨K,k1,k2⟩:=T I A z2 H f rest;exact ⟨.fn g K,by simp only [unV,k1],.fn g K asZ k2⟩
 | .ag vs,v,a,m,D,hv,b=>by
  cases v <;> simp only [mtV,reduceCtorEq] at b;cases hv with
  | ag us asZ U C=>
   obtain ⟨new,g1,S,W,T⟩:=kgX R vs U b;refine ⟨new,g1,S,W,λI A z2 H f rest=>?_⟩;obtain ⟨K,k1,k2⟩:=T I A z2 H f rest;exact ⟨.ag K,by simp only [unV,k1],.ag K asZ k2 C⟩
theorem kgX (R:Rel P κ ln z c s env h n):∀ (e:Ya PV) {vs:Ya (TV sem)} {asZ:Ya AV} {m i:Mt sem},TVRs P κ ln z s.n vs asZ->mtL c s e vs m=some i->
  ∃ new,i.cs=m.cs++new/\MExt m i/\(Inj m->Inj i)/\∀ t b z2 l,Fin (ows κ ln c s) κ ln h z i t b z2 l->∀ rest,∃ j,unL e (new++rest)=(j,rest)/\TVRs P t b z2 l j asZ
 | [],[],_,m,i,.nil,hm=>by simp only [mtL,Option.some.injEq] at hm; subst hm; exact ⟨[],by simp,.refl _,id,λ_ _ _ _ _ rest=>⟨[],rfl,.nil⟩⟩
 | [],_::_,_,m,i,_,hm=>by simp [mtL] at hm
 | _::_,[],_,m,i,_,hm=>by simp [mtL] at hm
 | pv::e,v::vs,_,m,i,.cons _ a _ asZ hv hvs,hm=>by
  simp only [mtL,jaa] at hm;obtain ⟨H,C,h2⟩:=hm;obtain ⟨u,F,a2,a3,a4⟩:=knD R pv hv C;obtain ⟨k,y,x,B,D⟩:=kgX R e hvs h2;refine ⟨u++k,by rw [y,F,jaw],a2.trans x,λE=>B (a3 E),λt b z2 l f rest=>?_⟩;obtain ⟨A,k1,k2⟩:=a4 t b z2 l (f.back R.zin x) (k++rest);obtain ⟨j,k3,G⟩:=D t b z2 l f rest;exact ⟨A::j,by simp only [unL,jaw,k1,k3],.cons _ _ _ _ k2 G⟩
end
theorem ktD (R:Rel P κ ln z c s env h n) {W:PB} {q p:Nat} {B:TB sem} {m L:Mt sem} (hB:thp c s q=some B) (a:mtB c s W B m=some L) :
  ∃ new,L.cs=m.cs++new/\MExt m L/\(Inj m->Inj L)/\∀ E A z2 F,Fin (ows κ ln c s) κ ln h z L E A z2 F->E p = κ q/\A p=ln q->∀ rest,∃ Q,unB W (new++rest)=(some Q,rest)/\BR P E A z2 h F p Q/\Q.isF=B.isF:=by
 have I:=R.blk q B hB;unfold mtB at a;split at a
 ·rename_i T vs T' us;split at a
  ·rename_i e;subst e;cases I with
   | bx _ _ D asZ b C H J=>
    obtain ⟨new,g1,X,g3,g4⟩:=kgX R vs H a;refine ⟨new,g1,X,g3,λE A z2 F f hp rest=>?_⟩;obtain ⟨M,k1,k2⟩:=g4 E A z2 F f rest;exact ⟨.bx T M,by simp only [unB,k1],.bx T M D asZ (by rw [hp.1]; exact b) (by rw [<-k2.len,H.len]; exact C) k2 J,rfl⟩
  ·cases a
 ·rename_i T t T' t' x;split at a
  ·rename_i e;subst e;simp only [jac] at a;obtain ⟨y,K,rfl⟩:=a;obtain ⟨e,rfl⟩:=kaj K;cases e;cases I with
   | el _ _ _ D cs G b C H J hl=>
    exact ⟨[⟨t,x⟩],rfl,⟨λ_ _ h=>h,λ_ h=>h⟩,id,λE A z2 F f hp rest=>⟨.el T t x,by simp [unB,tcast],.el T t x D cs G (by rw [hp.1]; exact b) C (H.mono λq B b=>f.z q B (hz_z R.zin q B b)) J (by rw [hp.2]; exact hl),rfl⟩⟩
  ·cases a
 ·rename_i T t T' t' l;split at a
  ·rename_i e;subst e;simp only [jac] at a;obtain ⟨y,K,rfl⟩:=a;obtain ⟨e,rfl⟩:=kaj K;cases e;refine ⟨[⟨.sl t,l⟩],rfl,⟨λ_ _ h=>h,λ_ h=>h⟩,id,λE A z2 F f hp rest=>⟨.sl T t l,by simp [unB,tcast],?_,rfl⟩⟩;cases I with
   | sl0 _ _ _ G b hl hn=>exact .sl0 T t l G (by rw [hp.1]; exact b) hl (by rw [hp.2]; exact hn)
   | sl _ _ _ D es G b C H J hn=>exact .sl T t l D es G (by rw [hp.1]; exact b) C (H.mono λq B b=>f.z q B (hz_z R.zin q B b)) J (by rw [hp.2]; exact hn)
  ·cases a
 ·rename_i k v k' v' l;simp only [jac] at a;obtain ⟨y,K,rfl⟩:=a;obtain ⟨e,rfl⟩:=kaj K;cases e;cases I with
  | mp _ _ _ D Y hf b C=>exact ⟨[⟨.sl (.pr k v),l⟩],rfl,⟨λ_ _ h=>h,λ_ h=>h⟩,id,λE A z2 F f hp rest=>⟨.mp k v l,by simp [unB,tcast],.mp k v l D Y hf (by rw [hp.1]; exact b) C,rfl⟩⟩
 ·rename_i T t j U u T' t' j' U' u' l;split at a
  ·rename_i e;obtain ⟨rfl,rfl,rfl,rfl⟩:=e;simp only [jac] at a;obtain ⟨y,K,rfl⟩:=a;obtain ⟨e,rfl⟩:=kaj K;cases e;refine ⟨[⟨.sl t,l⟩],rfl,⟨λ_ _ h=>h,λ_ h=>h⟩,id,λE A z2 F f hp rest=>⟨.fm T t j U u l none,by simp [unB,tcast],?_,rfl⟩⟩;cases I with
   | fm0 _ _ _ _ _ _ _ G b hl hn=>exact .fm0 T t j U u l none G (by rw [hp.1]; exact b) hl (by rw [hp.2]; exact hn)
   | fm _ _ _ _ _ _ _ D es G b C hn hl H S J=>exact .fm T t j U u l none D es G (by rw [hp.1]; exact b) C (by rw [hp.2]; exact hn) hl (λi x e rm h2 h3 Z h5=>(H i x e rm h2 h3 (by rw [<-hp.2]; exact Z) h5).mono (λq B b=>f.z q B (hz_z R.zin q B b)) λ_ _ _ h=>h) .none J
  ·cases a
 ·rename_i x;cases a;cases I with
  | si _ D b S C=>exact ⟨[⟨.pr .s (.i .i64),x⟩],rfl,⟨λ_ _ h=>h,λ_ h=>h⟩,id,λE A z2 F f hp rest=>⟨.si x,by simp [unB,tcast],.si x D (by rw [hp.1]; exact b) S C,rfl⟩⟩
 ·rename_i l l';split at a
  ·rename_i e;subst e;cases a;cases I with
   | km _ D b C=>exact ⟨[],by simp,⟨λ_ _ h=>h,λ_ h=>h⟩,id,λE A z2 F f hp rest=>⟨.km l,by simp [unB],.km l D (by rw [hp.1]; exact b) C,rfl⟩⟩
  ·cases a
 ·cases a
end
theorem kau {α:Type}:∀ {l:Ya (Nat×α)} {x:Nat} {v:α},alk l x=some v->(x,v)∈l
 | [],x,v,h=>by simp [alk] at h
 | (k,w)::l,x,v,h=>by
  simp only [alk] at h;split at h
  ·rename_i e; cases h; subst e; simp
  ·exact jbm _ (kau h)
theorem kbd {α:Type}:∀ (l l':Ya (Nat×α)) (x:Nat),alk (l++l') x=match alk l x with | some v=>some v | none=>alk l' x
 | [],l',x=>rfl
 | (k,w)::l,l',x=>by
  simp only [jdj,alk];split
  ·rfl
  ·exact kbd l l' x
theorem kre {t u:Ty} {ts:Ya Ty} {p:(t:Ty)×t.den} {l:Ya ((t:Ty)×t.den)}:mkT sem (t::u::ts) (p::l)=(tcast (A:=sem) t p.2).bind λx=>(mkT sem (u::ts) l).map λy=>((x,y):t.den×(tup (u::ts)).den):=rfl
section
variable {P:Ye} {κ κ':Nat->Yb Nat} {ln ln':Nat->Nat} {z z':AH} {c:Cx sem} {s:TS sem} {env:Env} {h h':AH} {n n' N N':Nat}
theorem kmz:∀ (ts:Ya Ty) (l:Ya ((t:Ty)×t.den)) (x:(tup ts).den),mkT sem ts l=some x->unT sem ts x=l:=by
 intro ts;induction ts with
 | nil=>
  intro l x h;cases l with
  | nil=>rfl
  | cons p l=>exact kaa (r:=x) h
 | cons t ts i=>
  intro l x h;cases ts with
  | nil=>
   cases l with
   | nil=>exact kaa (r:=x) h
   | cons p l=>
    cases l with
    | nil=>
     obtain ⟨t',y⟩:=p;obtain ⟨e,rfl⟩:=kaj h;cases e; rfl
    | cons q l=>exact kaa (r:=x) h
  | cons u ts=>
   cases l with
   | nil=>exact kaa (r:=x) h
   | cons p l=>
    rw [kre] at h;obtain ⟨j,b,h⟩:=jaa.1 h;obtain ⟨f,a,rfl⟩:=jac.1 h;obtain ⟨t',y⟩:=p;obtain ⟨e,rfl⟩:=kaj b;cases e;show _::unT sem (u::ts) f=_::l;rw [i l f a]
theorem kjG (R:Rel P κ ln z c s env h n):∀ (l:Ya (Nat×PV)) {m i:Mt sem},mtE c s l m=some i->
  ∃ new,i.cs=m.cs++new/\MExt m i/\(Inj m->Inj i)/\∀ t a z2 k,Fin (ows κ ln c s) κ ln h z i t a z2 k->∀ rest,∃ E,unE l (new++rest)=(E,rest)/\(∀ y v,alk E y=some v->TVR P t a z2 k v (lk env y))/\∀ y,(alk E y).isSome=(alk l y).isSome
 | [],m,i,hm=>by simp only [mtE,Option.some.injEq] at hm; subst hm; exact ⟨[],by simp,.refl _,id,λ_ _ _ _ _ rest=>⟨[],rfl,λy v j=>by simp [alk] at j,λ_=>rfl⟩⟩
 | (x,pv)::l,m,i,hm=>by
  simp only [mtE,jaa] at hm;obtain ⟨L,F,h2⟩:=hm;obtain ⟨u,J,a2,a3,a4⟩:=knD R pv (R.env x) F;obtain ⟨b,B,A,D,H⟩:=kjG R l h2;refine ⟨u++b,by rw [B,J,jaw],a2.trans A,λI=>D (a3 I),λt a z2 k f rest=>?_⟩;obtain ⟨C,k1,k2⟩:=a4 t a z2 k (f.back R.zin A) (b++rest);obtain ⟨E,k3,K,G⟩:=H t a z2 k f rest;refine ⟨(x,C)::E,by simp only [unE,jaw,k1,k3],λy v j=>?_,λy=>?_⟩
  ·simp only [alk] at j;split at j
   ·rename_i e; cases j; subst e; exact k2
   ·exact K y v j
  ·simp only [alk];split
   ·rfl
   ·exact G y
theorem kuJ {m b:Mt sem} {id:Nat} (h:mtI c m id=some b):b.cs=m.cs/\MExt m b/\(Inj m->Inj b):=by
 unfold mtI at h;split at h
 ·obtain ⟨f,h2,j,t,i⟩:=kdu h;exact ⟨j,f,λk x y a l e=>i x y a l e k⟩
 ·cases h; exact ⟨rfl,.refl _,λh=>h⟩
theorem kjv (R:Rel P κ ln z c s env h n):∀ (l:Ya (Nat×PB)) {m t:Mt sem},mtH c s l m=some t->
  ∃ new,t.cs=m.cs++new/\MExt m t/\(Inj m->Inj t)/\∀ C i z2 A,Fin (ows κ ln c s) κ ln h z t C i z2 A->∀ rest,∃ H,unH l (new++rest)=(H,rest)/\(∀ id b,alk H id=some b->∃ B q F,b=some B/\alk t.ids id=some q/\alk s.hp q=some (some F)/\BR P C i z2 h A id B/\B.isF=F.isF)/\∀ y,(alk H y).isSome=(alk l y).isSome
 | [],m,t,a=>by simp only [mtH,Option.some.injEq] at a; subst a; exact ⟨[],by simp,.refl _,id,λ_ _ _ _ _ rest=>⟨[],rfl,λy v u=>by simp [alk] at u,λ_=>rfl⟩⟩
 | (x,pb)::l,m,t,a=>by
  simp only [mtH] at a;obtain ⟨m0,L,a⟩:=jaa.1 a;obtain ⟨Y,i2,i3⟩:=kuJ L;split at a
  ·cases a
  ·rename_i q Q;split at a
   ·rename_i F hB0;simp only [jaa] at a;obtain ⟨m1,S,h2⟩:=a;obtain ⟨D,Z,a2,a3,a4⟩:=ktD (p:=x) R (kab hB0) S;obtain ⟨j,K,G,M,W⟩:=kjv R l h2;refine ⟨D++j,by rw [K,Z,Y,jaw],i2.trans (a2.trans G),λX=>M (a3 (i3 X)),λC i z2 A f rest=>?_⟩;have E:=G.ids _ _ (a2.ids _ _ Q);obtain ⟨k0,I,_⟩:=f.k x q E;obtain ⟨J,k1,k2,U⟩:=a4 C i z2 A (f.back R.zin G) ⟨k0,I⟩ (j++rest);obtain ⟨H,k3,k4,T⟩:=W C i z2 A f rest;refine ⟨(x,some J)::H,by simp only [unH,jaw,k1,k3],λy b u=>?_,λy=>?_⟩
    ·simp only [alk] at u;split at u
     ·rename_i e; cases u; subst e; exact ⟨J,q,F,rfl,E,hB0,k2,U⟩
     ·exact k4 y b u
    ·simp only [alk];split
     ·rfl
     ·exact T y
   ·cases a
theorem kcr {x:Nat} {v:TV sem} (b:alk c.e0 x=some v) {id:Nat} (a:v.has id=true):c.has id=true:=by
 unfold Cx.has;simp only [jbe,jbq];exact .inl (.inr ⟨_,kau b,a⟩)
theorem has_g {id:Nat} {B:TB sem} (a:alk c.g id=some B):c.has id=true:=by unfold Cx.has; simp [a]
theorem kpE {j:Nat} {B:TB sem} (b:alk c.g j=some B) {id:Nat} (a:B.has id=true):c.has id=true:=by
 unfold Cx.has;simp only [jbe,jbq];exact .inr ⟨_,kau b,a⟩
theorem Rel.g_thp (R:Rel P κ ln z c s env h n) {id:Nat} {B:TB sem} (a:alk c.g id=some B):thp c s id=some B:=by
 unfold thp;cases e:alk s.hp id with
 | some b=>have:=R.g _ _ e; rw [a] at this; cases this
 | none=>exact a
theorem Rel.e0_tlk (R:Rel P κ ln z c s env h n) {x:Nat} {v:TV sem} (a:alk c.e0 x=some v):tlk c s x=v:=by
 unfold tlk;cases e:alk s.env x with
 | some b=>have:=R.e0 _ _ e; rw [a] at this; cases this
 | none=>simp [a]
theorem koI (R:Rel P κ ln z c s env h n) {p:Pat} {x:p.ty.den} (hc:∀ id,c.has id=true->id<N) (hp:pack c N p s=some x) (c2:Cx sem) (L:TS sem) (hN:N<=L.n)
  (hE:∀ y,tlk c2 L y=(match alk (kad (A:=sem) p N x).env y with | some v=>v | none=>(alk c.e0 y).getD .un)\/tlk c2 L y = .un)
  (hH:∀ id B,thp c2 L id=some B->alk (kad (A:=sem) p N x).hp id=some (some B)\/alk c.g id=some B)
  (am:∀ x v,alk L.env x=some v->alk c2.e0 x=none) (hg:∀ id b,alk L.hp id=some b->alk c2.g id=none) (ax:L.dy=true):∃ K f z2,Rel P K f z2 c2 L env h n/\∀ id,c.has id=true->K id = κ id/\f id=ln id:=by
 unfold pack at hp;obtain ⟨m1,aw,hp⟩:=jaa.1 hp;obtain ⟨m,hm,hp⟩:=jaa.1 hp;obtain ⟨aa,hp⟩:=jdc.1 hp;simp only [jad,jap,jbe,jbr,jak] at aa;obtain ⟨⟨ab,ai⟩,ad⟩:=aa;obtain ⟨Y,a1,a2,a3,a4⟩:=kjG R _ aw;obtain ⟨Q,b1,b2,b3,b4⟩:=kjv R _ hm;simp only [jav] at a1;have aq:m.cs=Y++Q:=by rw [b1,a1]
 have X:Inj m:=b3 (a3 (λx y a hx=>by simp [alk] at hx));let K:Nat->Yb Nat:=λid=>match alk m.ids id with | some q=>κ q | none=>κ id
 let f:Nat->Nat:=λid=>match alk m.ids id with | some q=>ln q | none=>ln id
 have C:∀ {p q:Nat},alk m.ids p=some q->K p = κ q/\f p=ln q:=λ{p q} G=>by simp only [K,f,G]; exact ⟨trivial,trivial⟩
 have l:∀ {id:Nat},c.has id=true->K id = κ id/\f id=ln id:=λ{id} t=>by
  cases G:alk m.ids id with
  | none=>simp only [K,f,G]; exact ⟨trivial,trivial⟩
  | some q=>
   rcases ad _ (kau G) with e | ⟨_,e⟩
   ·have e:id=q:=e;subst e; exact C G
   ·have e:c.has id=false:=e;rw [e] at t; cases t
 have fin:Fin (ows κ ln c s) κ ln h z m K f (hz (ows κ ln c s) h z m.sn) L.n:=⟨λp q G=>⟨(C G).1,(C G).2,jar (ai _ (kau G)) hN⟩,λq B G=>G⟩;obtain ⟨E,e1,e2,e3⟩:=a4 K f _ L.n (fin.back R.zin b2) Q;obtain ⟨H,f1,f2,f3⟩:=b4 K f _ L.n fin [];have al:unT sem p.tys x=Y++Q:=by rw [<-aq]; exact kmz _ _ _ hp
 rw [jbf] at f1;have ah:(kad (A:=sem) p N x).env=E:=by simp only [kad,al,e1]
 have au:(kad (A:=sem) p N x).hp=H:=by simp only [kad,al,e1,f1]
 rw [ah] at hE;rw [au] at hH;have own:∀ id∈m.sn,∃ B,alk s.hp id=some (some B):=λid t=>by
  have:=(ab id t).1.1;cases ho:ownB s id with
  | none=>rw [ho] at this; cases this
  | some B=>exact ⟨B,kbC ho⟩
 have ae:∀ {id q:Nat} {B:TB sem},thp c s id=some B->Ow κ ln id B q->(id∉m.sn)->hz (ows κ ln c s) h z m.sn q=none:=λ{id q B} hB M ar=>by
  unfold hz;rw [if_neg]
  ·exact R.owZ hB M
  ·intro S;obtain ⟨j,F,ao⟩:=jbq.1 S;obtain ⟨Bj,hBj⟩:=own j F;have:=R.owI hB (kab hBj) M (kci (kab hBj) (by simpa using ao));subst this; exact ar F
 have Z:∀ {id:Nat} {B:TB sem},alk H id=some (some B)->∃ q u,alk m.ids id=some q/\alk s.hp q=some (some u)/\BR P K f (hz (ows κ ln c s) h z m.sn) h L.n id B/\B.isF=u.isF:=λ{id B} hB=>by
  obtain ⟨B',q,u,g1,D,I,U,g5⟩:=f2 id _ hB;cases g1;exact ⟨q,u,D,I,U,g5⟩
 have J:∀ {id:Nat} {B:TB sem},alk H id=some (some B)->∃ q u,alk m.ids id=some q/\alk s.hp q=some (some u)/\BR P K f (hz (ows κ ln c s) h z m.sn) h L.n id B:=λ{id B} hB=>by
  obtain ⟨q,u,D,I,U,_⟩:=Z hB;exact ⟨q,u,D,I,U⟩
 have ak:∀ {id q:Nat},alk m.ids id=some q->q∉m.sn:=λ{id q} G t=>by
  have:=(ab q t).2 _ (kau G);simp at this
 have aj:∀ {id:Nat} {B:TB sem},alk c.g id=some B->id∉m.sn:=λ{id B} hB t=>by
  have:=(ab id t).1.2;rw [has_g hB] at this; cases this
 refine ⟨K,f,hz (ows κ ln c s) h z m.sn,⟨λy=>?_,λid B hB=>?_,λid B hB=>?_,λi j B B' q t F ki W=>?_,kcH R.zin,λid B q hB M=>?_,λid B q hB M=>?_,R.hn,am,hg,(λhd=>by rw [ax] at hd; cases hd),λq k T es G e he=>?_,λid B hB hf=>?_⟩,λid t=>l t⟩
 ·rcases hE y with hE | hE
  ·rw [hE];split
   ·rename_i v hv; exact e2 y v hv
   ·cases hy:alk c.e0 y with
    | none=>exact .un _
    | some v=>
     simp only [jcc];have:=R.env y;rw [R.e0_tlk hy] at this;exact this.congr (λid t=>⟨(l (kcr hy t)).1,(l (kcr hy t)).2,jar (hc id (kcr hy t)) hN⟩) (hz_z R.zin)
  ·rw [hE]; exact .un _
 ·rcases hH id B hB with hB | hB
  ·obtain ⟨q,u,D,I,U⟩:=J hB; exact U
  ·exact (R.blk id B (R.g_thp hB)).congr (l (has_g hB)) (λi t=>⟨(l (kpE hB t)).1,(l (kpE hB t)).2,jar (hc i (kpE hB t)) hN⟩) (hz_z R.zin)
 ·rcases hH id B hB with hB | hB
  ·obtain ⟨q,u,D,I,U⟩:=J hB; exact jar (ai _ (kau D)) hN
  ·exact jar (hc id (has_g hB)) hN
 ·rcases hH i B t with t | t
  ·obtain ⟨qi,Bi,D,I,U⟩:=J t;rw [(C D).1] at ki;rcases hH j B' F with F | F
   ·obtain ⟨qj,Bj,k2,k3,k4⟩:=J F;rw [(C k2).1] at W;have:=R.inj qi qj _ _ q (kab I) (kab k3) ki W;subst this;exact X i j qi D k2
   ·rw [(l (has_g F)).1] at W;have:=R.inj qi j _ _ q (kab I) (R.g_thp F) ki W;subst this;have:=R.g _ _ I;rw [F] at this; cases this
  ·rw [(l (has_g t)).1] at ki;rcases hH j B' F with F | F
   ·obtain ⟨qj,Bj,k2,k3,k4⟩:=J F;rw [(C k2).1] at W;have:=R.inj i qj _ _ q (R.g_thp t) (kab k3) ki W;subst this;have:=R.g _ _ k3;rw [t] at this; cases this
   ·rw [(l (has_g F)).1] at W;exact R.inj i j _ _ q (R.g_thp t) (R.g_thp F) ki W
 ·rcases hH id B hB with hB | hB
  ·obtain ⟨q',u,D,I,U⟩:=J hB;rw [(C D).1] at M;exact ae (kab I) (.inl M) (ak D)
  ·rw [(l (has_g hB)).1] at M;exact ae (R.g_thp hB) (.inl M) (aj hB)
 ·rcases hH id B hB with hB | hB
  ·obtain ⟨q',u,D,I,U⟩:=J hB;rw [(C D).1] at M;exact R.bnd q' u q (kab I) M
  ·rw [(l (has_g hB)).1] at M;exact R.bnd id B q (R.g_thp hB) M
 ·unfold hz at G;split at G
  ·rename_i S;obtain ⟨id,ad,ap⟩:=jbq.1 S;obtain ⟨B,hB⟩:=own id ad;exact (R.blk id B (kab hB)).elenO (kci (kab hB) (by simpa using ap)) G e he
  ·exact R.zk q k T es G e he
 ·
  have ac:∀ id B,thp c2 L id=some B->∃ i0 u,thp c s i0=some u/\B.isF=u.isF/\K id = κ i0/\f id=ln i0/\i0∉m.sn/\((alk m.ids id=some i0/\alk s.hp i0=some (some u))\/(i0=id/\alk c.g id=some B)):=λid B hB=>by
   rcases hH id B hB with hB | hB
   ·obtain ⟨q,u,D,I,U,g5⟩:=Z hB;exact ⟨q,u,kab I,g5,(C D).1,(C D).2,ak D,.inl ⟨D,I⟩⟩
   ·exact ⟨id,B,R.g_thp hB,rfl,(l (has_g hB)).1,(l (has_g hB)).2,aj hB,.inr ⟨rfl,hB⟩⟩
  obtain ⟨i0,u,a0,a1,a2,a3,a4,a5⟩:=ac id B hB;obtain ⟨g1,D⟩:=R.fam i0 u a0 (by rw [<-a1]; exact hf);rw [a3];refine ⟨g1,λr hr=>?_⟩;obtain ⟨k1,k2,k3,k4⟩:=D r hr;refine ⟨k1,?_,λj B' F=>?_,λj B' F an af=>?_⟩
  ·exact ae a0 (.inr ⟨by rw [<-a1]; exact hf,hr⟩) a4
  ·obtain ⟨j0,B1,b0,b1,b2,b3,b4,b5⟩:=ac j B' F;rw [b2]; exact k3 j0 B1 b0
  ·obtain ⟨j0,B1,b0,b1,b2,b3,b4,b5⟩:=ac j B' F;rw [b3] at af;have:=k4 j0 B1 b0 (by rw [<-b1]; exact an) af;subst this;rcases a5 with ⟨a5,a6⟩ | ⟨rfl,a6⟩
   ·rcases b5 with ⟨b5,b6⟩ | ⟨rfl,b6⟩
    ·exact X _ _ _ b5 a5
    ·have:=R.g _ _ a6; rw [b6] at this; cases this
   ·rcases b5 with ⟨b5,b6⟩ | ⟨rfl,b6⟩
    ·have:=R.g _ _ b6; rw [a6] at this; cases this
    ·rfl
end
section
variable {P:Ye} {κ κ':Nat->Yb Nat} {ln ln':Nat->Nat} {z z':AH} {c:Cx sem} {s:TS sem} {env:Env} {h h':AH} {n n' N N':Nat}
variable {w:World} {O:Nat->Prop} {μ:Mu} {p:Nat->Bool}
abbrev ahN:AH:=λ_=>none
theorem kvO {b:Nat} (h:Av O (muP p μ) b):Av O μ b:=by
 rcases h with h | ⟨id,k,h⟩
 ·exact .inl h
 ·exact .inr ⟨id,k,(kaz h).2⟩
theorem VR.freeP {a:AV} {v:Yd} (i:VR w O μ n a v) (f:Free a):VR w O (muP p μ) n a v:=
 (i.free f (O':=Av O (muP p μ)) λb e=>kvO e).lift λb e=>e
theorem HR.part (hr:HR w O μ h n) (hz:∀ q B,z q=some B->h q=some B/\p q=false):HR w (Av O (muP p μ)) (muP (λi=>!p i) μ) z n:=by
 refine ⟨hr.olt.av (λb a=>?_),λid b k e=>hr.scope id b k (kaz e).2,λid f b k l e e'=>hr.inj id f b k l (kaz e).2 (kaz e').2,λid b k e hO=>?_,λid B hB=>?_⟩
 ·rcases a with a | ⟨id,k,a⟩
  ·exact hr.olt b a
  ·exact (hr.scope id b k (kaz a).2).2
 ·obtain ⟨m,j⟩:=kaz e;rcases Or.symm hO with hO | hO | ⟨f,l,hO⟩
  ·exact hr.notO id b k j (.inr hO)
  ·exact hr.notO id b k j (.inl hO)
  ·obtain ⟨u,x⟩:=kaz hO;rw [hr.inj _ _ _ _ _ j x] at m;simp [u] at m
 ·obtain ⟨t,h2⟩:=hz id B hB;exact (hr.blk id B t).mapV (by simp only [muP]; rw [if_pos (by simp [h2])]) λv=>v.splitP p
theorem VR.snapP (hr:HR w O μ h n) (hz:∀ q B,z q=some B->h q=some B/\p q=false) {a a':AV} {v:Yd} (i:Snap z a a') (e:VR w O μ n a v):VR w O (muP p μ) n a' v:=
 ((i.vr (hr.part hz)) (e.splitP p)).lift λb f=>f
theorem VR.ownP {a:AV} {v:Yd} (f:VR w O μ n a v) (l:(∃ q i j,a = .own q i j)\/(∃ q i j,a = .ms q i j)\/∃ q,a = .mp q):VR w O (muP p μ) n a v:=by
 rcases l with ⟨q,i,j,rfl⟩ | ⟨q,i,j,rfl⟩ | ⟨q,rfl⟩
 ·cases f with | own _ _ _ _ h h1 f=>exact .own _ _ _ _ h h1 λb k e=>f b k (kaz e).2
 ·cases f with | ms _ _ _ _ h h1 f=>exact .ms _ _ _ _ h h1 λb k e=>f b k (kaz e).2
 ·cases f with | mp _ _ h h1 f=>exact .mp _ _ h h1 λb k e=>f b k (kaz e).2
mutual
theorem krs (hr:HR w O μ h n) (hz:∀ q B,z q=some B->h q=some B/\p q=false):∀ {K:TV sem} {a:AV},TVR P κ ln z N K a->∀ v,VR w O μ n a v->∃ a',TVR P κ ln ahN N K a'/\(a.one=true->a'.one=true)/\VR w O (muP p μ) n a' v
 | _,_,.un a,v,hv=>by
  cases e:a.one with
  | true=>exact ⟨.sc v,.un _,λ_=>hv.one e,.sc v (hv.one e)⟩
  | false=>exact ⟨.un,.un _,λh=>(by cases h),.un v⟩
 | _,_,.ud,v,hv=>⟨.ud,.ud,λh=>h,hv.freeP .ud⟩
 | _,_,.gs t l,v,hv=>⟨_,.gs t l,λh=>h,by cases hv; exact .gs _⟩
 | _,_,.yl id q hi h,v,hv=>⟨_,.yl id q hi h,λh=>h,hv.freeP (.sc _)⟩
 | _,_,.kp id hi,v,hv=>⟨.un,.kp id hi,λh=>h,.un v⟩
 | _,_,.np0 id hi,v,hv=>⟨_,.np0 id hi,λh=>h,hv.freeP (.sc _)⟩
 | _,_,.np id q hi h,v,hv=>⟨_,.np id q hi h,λh=>h,hv.ownP (.inl ⟨_,_,_,rfl⟩)⟩
 | _,_,.c t x a hd hs,v,hv=>⟨t.av x,.free hd,(λe=>hs.one e),VR.snapP hr hz hs hv⟩
 | _,_,.kb b,v,hv=>⟨_,.kb b,λh=>h,hv.freeP (.sc _)⟩
 | _,_,.sc u e,v,hv=>⟨_,.sc u e,λh=>h,hv.freeP (.sc _)⟩
 | _,_,.ptr id j q hN hq,v,hv=>⟨_,.ptr id j q hN hq,λh=>h,hv.ownP (.inl ⟨_,_,_,rfl⟩)⟩
 | _,_,.adr id i j q hN hq h0 e,v,hv=>⟨_,.adr id i j q hN hq h0 e,λh=>h,hv.ownP (.inl ⟨_,_,_,rfl⟩)⟩
 | _,_,.aa id i q hN hq h0 e,v,hv=>⟨_,.aa id i q hN hq h0 e,λh=>h,hv.ownP (.inl ⟨_,_,_,rfl⟩)⟩
 | _,_,.ax id i k q hN hq h0 e hk,v,hv=>⟨_,.ax id i k q hN hq h0 e hk,λh=>h,hv.ownP (.inl ⟨_,_,_,rfl⟩)⟩
 | _,_,.fq t x o a hd hs,v,hv=>⟨.fp ((t.enc x).drop o),.fq t x o _ hd (.free _ ((kjZ _).2 λc G=>kaX t x hd c (jdf G))),λ_=>rfl,VR.snapP hr hz hs hv⟩
 | _,_,.mw0 id hN hq,v,hv=>⟨_,.mw0 id hN hq,λh=>h,hv.freeP (.sc _)⟩
 | _,_,.mw id q hN hq,v,hv=>⟨_,.mw id q hN hq,λh=>h,hv.ownP (.inr (.inl ⟨_,_,_,rfl⟩))⟩
 | _,_,.ms0 id off len hN hq ho hl,v,hv=>⟨_,.ms0 id off len hN hq ho hl,λh=>h,hv.freeP (.sc _)⟩
 | _,_,.ms id off len q hN hq h0 e h2,v,hv=>⟨_,.ms id off len q hN hq h0 e h2,λh=>h,hv.ownP (.inr (.inl ⟨_,_,_,rfl⟩))⟩
 | _,_,.mp id q hN hq,v,hv=>⟨_,.mp id q hN hq,λh=>h,hv.ownP (.inr (.inr ⟨_,rfl⟩))⟩
 | _,_,.fw0 id hN hq,v,hv=>⟨_,.fw0 id hN hq,λh=>h,hv.freeP (.sc _)⟩
 | _,_,.fw id q hN hq,v,hv=>⟨_,.fw id q hN hq,λh=>h,hv.ownP (.inr (.inl ⟨_,_,_,rfl⟩))⟩
 | _,_,.fr0 id i m hN h0 hq,v,hv=>⟨_,.fr0 id i m hN h0 hq,λh=>h,hv.freeP (.sc _)⟩
 | _,_,.fr id i r m hN h0 hq,v,hv=>⟨_,.fr id i r m hN h0 hq,λh=>h,hv.ownP (.inr (.inl ⟨_,_,_,rfl⟩))⟩
 | _,_,.fs0 id off len hN hq ho hl,v,hv=>⟨_,.fs0 id off len hN hq ho hl,λh=>h,hv.freeP (.sc _)⟩
 | _,_,.fs id off len q hN hq h0 e h2,v,hv=>⟨_,.fs id off len q hN hq h0 e h2,λh=>h,hv.ownP (.inr (.inl ⟨_,_,_,rfl⟩))⟩
 | _,_,.fo id i j q hN hq h0 e,v,hv=>⟨_,.fo id i j q hN hq h0 e,λh=>h,hv.ownP (.inl ⟨_,_,_,rfl⟩)⟩
 | _,_,.fa id i k o r m hN h0 hq hk hm,v,hv=>⟨_,.fa id i k o r m hN h0 hq hk hm,λh=>h,hv.ownP (.inl ⟨_,_,_,rfl⟩)⟩
 | _,_,.fn g vs asZ hs,v,hv=>by
  cases hv with
  | fn _ _ D us I G C=>
   obtain ⟨f,e,h2,J,H⟩:=kgh hr hz hs us C;refine ⟨.fn g f,.fn g vs f e,λh=>h,.fn g f D us (by omega) (λj c E=>?_) H⟩;obtain ⟨c0,A⟩:=kag h2 E;exact G j c0 A
 | _,_,.cv m x y F a hcv,v,hv=>⟨a,.cv m x y F a hcv,λh=>h,hv.freeP (by obtain ⟨g,asZ,rfl,L,_⟩:=hcv; exact (kfa _ _).2 L)⟩
 | _,_,.tp vs asZ hs,v,hv=>by
  cases hv with
  | tp _ D us I G C=>
   obtain ⟨f,e,h2,J,H⟩:=kgh hr hz hs us C;refine ⟨.tp f,.tp vs f e,λh=>h,.tp f D us (by omega) (λj c E=>?_) H⟩;obtain ⟨c0,A⟩:=kag h2 E;exact G j c0 A
 | _,_,.ag vs asZ hs hone,v,hv=>by
  cases hv with
  | ag _ D us I G M C=>
   obtain ⟨f,e,h2,J,H⟩:=kgh hr hz hs us C;refine ⟨.ag f,.ag vs f e (J hone),λh=>h,.ag f D us (by omega) (λj c E=>?_) (λj c E=>J hone c (jai E)) H⟩;obtain ⟨c0,A⟩:=kag h2 E;exact G j c0 A
theorem kgh (hr:HR w O μ h n) (hz:∀ q B,z q=some B->h q=some B/\p q=false):∀ {vs:Ya (TV sem)} {asZ:Ya AV},TVRs P κ ln z N vs asZ->∀ us:Nat->Yd,(∀ (j:Nat) (c:AV),asZ[j]?=some c->VR w O μ n c (us j))->
  ∃ e,TVRs P κ ln ahN N vs e/\e.length=asZ.length/\((∀ a∈asZ,a.one=true)->∀ a∈e,a.one=true)/\∀ (j:Nat) (c:AV),e[j]?=some c->VR w O (muP p μ) n c (us j)
 | _,_,.nil,us,_=>⟨[],.nil,rfl,λ_ a h=>(by cases h),λj a h=>by simp at h⟩
 | _,_,.cons v a vs asZ hv hs,us,hus=>by
  obtain ⟨a',m,h2,u⟩:=krs hr hz hv (us 0) (hus 0 a rfl);obtain ⟨e,g1,l,A,t⟩:=kgh hr hz hs (λj=>us (j+1)) (λj c i=>hus (j+1) c (by simpa using i));refine ⟨a'::e,.cons _ _ _ _ m g1,by simp [l],λf b k=>?_,λj b i=>?_⟩
  ·rcases jbi.1 k with rfl | k
   ·exact h2 (f a (by simp))
   ·exact A (λx y=>f x (by simp [y])) b k
  ·cases j with
   | zero=>simp at i; subst i; exact u
   | succ j=>exact t j b (by simpa using i)
end
theorem kih (hr:HR w O μ h n) (hz:∀ q B,z q=some B->h q=some B/\p q=false) {cs b:Ya AV} (k:SnapL z cs b):∀ (j:Nat) (a a':AV),cs[j]?=some a->b[j]?=some a'->∀ v,VR w O μ n a v->VR w O (muP p μ) n a' v:=
 λj a a' f e v i=>VR.snapP hr hz (k.at j a a' f e) i
theorem ksD (hr:HR w O μ h n) (hz:∀ q B,z q=some B->h q=some B/\p q=false) {id q:Nat} {B:TB sem} (X:B.isF=false) (hb:BR P κ ln z h N id B) (E:κ id=some q) (hp:p q=true) :
  ∃ B2,(∀ h2:AH,h2 q=some B2->BR P κ ln ahN h2 N id B)/\BlkAt w O (muP p μ) n q B2:=by
 have F:muP p μ q = μ q:=by simp [muP,hp]
 cases hb with
 | bx T vs q' asZ m H Q h1=>
  rw [E] at m; cases m;obtain ⟨b,M,I,G,K⟩:=hr.blk q _ H;have Y:∀ (j:Nat) (c:AV),asZ[j]?=some c->M[0*vs.length+j]?=some ((M[0*vs.length+j]?).getD undef)/\VR w O μ n c ((M[0*vs.length+j]?).getD undef):=λj c D=>by
   obtain ⟨l1,u,l2,Z⟩:=(K 0 asZ rfl).2 j c D;rw [l2]; exact ⟨rfl,Z⟩
  obtain ⟨U,g1,R,S,g4⟩:=kgh hr hz Q _ (λj c D=>(Y j c D).2);refine ⟨.cells vs.length T [U],λh2 f=>.bx T vs q U E f g1 (S h1),?_⟩;refine ⟨b,M,F.trans I,G,λi e C=>?_⟩;cases i with
  | zero=>
   simp at C; subst C;obtain ⟨k1,k2⟩:=K 0 asZ rfl;refine ⟨by rw [R]; exact k1,λj a D=>?_⟩;obtain ⟨a0,A⟩:=kag R D;exact ⟨S h1 a (jai D),_,(Y j a0 A).1,g4 j a D⟩
  | succ i=>simp at C
 | el T t x q' cs J m H Q h1 hl=>
  rw [E] at m; cases m;refine ⟨.cells t.wd T [t.enc x],λh2 f=>.el T t x q (t.enc x) J E f (SnapL.free (kaX t x J)) (kaH t x J) hl,?_⟩;obtain ⟨b,M,I,G,K⟩:=hr.blk q _ H;refine ⟨b,M,F.trans I,G,λi e C=>?_⟩;cases i with
  | zero=>
   simp at C; subst C;obtain ⟨k1,k2⟩:=K 0 cs rfl;refine ⟨kaf t x J,λj a D=>?_⟩;obtain ⟨a0,A⟩:=kag Q.len D;obtain ⟨l1,u,l2,Z⟩:=k2 j a0 A;exact ⟨kaH t x J a (jai D),u,l2,kih hr hz Q j a0 a A D u Z⟩
  | succ i=>simp at C
 | sl0 T t l J m hl hn=>rw [E] at m; cases m
 | sl T t l q' es J m H Q h1 hn=>
  rw [E] at m; cases m;have hf:∀ e∈l.map t.enc,FreeL e:=λe he=>by obtain ⟨y,_,rfl⟩:=jba.1 he; exact kaX t y J
  refine ⟨.cells t.wd T (l.map t.enc),λh2 f=>.sl T t l q _ J E f (SnapE.free hf) (λe he=>by obtain ⟨y,_,rfl⟩:=jba.1 he; exact kaH t y J) hn,?_⟩;obtain ⟨b,M,I,G,K⟩:=hr.blk q _ H;refine ⟨b,M,F.trans I,G,λi e C=>?_⟩;obtain ⟨e0,W⟩:=kag Q.1 C;have L:=Q.2 i e0 e W C;obtain ⟨k1,k2⟩:=K i e0 W;refine ⟨by rw [L.len]; exact k1,λj a D=>?_⟩;obtain ⟨a0,A⟩:=kag L.len D;obtain ⟨l1,u,l2,Z⟩:=k2 j a0 A;exact ⟨(L.at j a0 a A D).one l1,u,l2,kih hr hz L j a0 a A D u Z⟩
 | mp k v l q' aa hf m H=>
  rw [E] at m; cases m;refine ⟨_,λh2 f=>.mp k v l q aa hf E f,?_⟩;obtain ⟨b,es,I,G,K,e4⟩:=hr.blk q _ H;refine ⟨b,es,F.trans I,G,K,λi x C=>?_⟩;obtain ⟨e,g1,R,S,g4,g5⟩:=e4 i x C;refine ⟨e,g1,R,S,g4,g5.freeP ?_⟩;obtain ⟨y,_,rfl⟩:=jba.1 (jai C);exact kfX v y.2 (kbR hf)
 | km l q m H=>
  rw [E] at m; cases m;obtain ⟨b,es,I,G,K,e4⟩:=hr.blk q _ H;refine ⟨_,λh2 f=>.km l q E f,⟨b,es,F.trans I,G,K,λi x C=>?_⟩⟩;obtain ⟨e,g1,R,S,g4,g5⟩:=e4 i x C;refine ⟨e,g1,R,S,g4,g5.freeP ?_⟩;obtain ⟨y,_,rfl⟩:=jba.1 (jai C);exact koO y.2
 | si x q m h0 H=>
  rw [E] at m; cases m;obtain ⟨b,I,G⟩:=hr.blk q _ H;exact ⟨_,λh2 f=>.si x q E h0 f,⟨b,F.trans I,G⟩⟩
 | fm0=>cases X
 | fm=>cases X
theorem kqj (es:Ya (Ya AV)) (Q:Nat->Nat->AV->Prop) (l:∀ (i:Nat) (e:Ya AV) (j:Nat) (a:AV),es[i]?=some e->e[j]?=some a->∃ a',Q i j a') :
  ∃ es':Ya (Ya AV),es'.length=es.length/\∀ (i:Nat) (e':Ya AV),es'[i]?=some e'->∃ e,es[i]?=some e/\e'.length=e.length/\∀ (j:Nat) (a':AV),e'[j]?=some a'->Q i j a':=by
 classical
 let f:Nat->Nat->AV->AV:=λi j a=>if h:∃ a',Q i j a' then Classical.choose h else a
 refine ⟨es.mapIdx λi e=>e.mapIdx (f i),by simp,λi e' m=>?_⟩;rw [List.getElem?_mapIdx] at m;obtain ⟨e,b,rfl⟩:=jac.1 m;refine ⟨e,b,by simp,λj a' t=>?_⟩;rw [List.getElem?_mapIdx] at t;obtain ⟨a,k,rfl⟩:=jac.1 t;have u:=l i e j a b k;simp only [f,dif_pos u];exact Classical.choose_spec u
theorem kqA {x:Nat} (a:(kan x).Nodup) {i j r m t:Nat} (b:(kac x)[i]?=some (some r,m)) (e:(kac x)[j]?=some (some r,t)):i=j:=by
 unfold kan at a;generalize kac x=l at a b e;induction l generalizing i j with
 | nil=>simp at b
 | cons y l u=>
  rw [jcp] at a;have f:∀ {k m:Nat},l[k]?=some (some r,m)->r∈l.filterMap (·.1):=λh=>jcn.2 ⟨_,jai h,rfl⟩;cases i with
  | zero=>
   cases j with
   | zero=>rfl
   | succ j=>
    simp at b e; subst b;simp only [jdg] at a;exact absurd (f e) a.1
  | succ i=>
   cases j with
   | zero=>
    simp at b e; subst e;simp only [jdg] at a;exact absurd (f b) a.1
   | succ j=>
    simp at b e;rw [u (by split at a; exact a; exact (jdg.1 a).2) b e]
theorem kuD (hr:HR w O μ h n) (hz:∀ q B,z q=some B->h q=some B/\p q=false) {id:Nat} {B:TB sem} (hb:BR P κ ln z h N id B) (hp:∀ q,Ow κ ln id B q->p q=true) (ai:B.isF=true->(kan (ln id)).Nodup/\∀ r∈kan (ln id),κ id≠some r) :
  ∃ f:Nat->ABlk,(∀ h2:AH,(∀ q,Ow κ ln id B q->h2 q=some (f q))->BR P κ ln ahN h2 N id B)/\∀ q,Ow κ ln id B q->BlkAt w O (muP p μ) n q (f q):=by
 cases E:B.isF with
 | false=>
  have ow:∀ q,Ow κ ln id B q->κ id=some q:=λq A=>by
   rcases A with A | ⟨hf,_⟩
   ·exact A
   ·rw [E] at hf; cases hf
  cases R:κ id with
  | none=>
   refine ⟨λ_=>.map [],λh2 _=>?_,λq A=>by have:=ow q A; rw [R] at this; cases this⟩;cases hb with
   | bx _ _ q asZ A=>rw [R] at A; cases A
   | el _ _ _ q cs hd A=>rw [R] at A; cases A
   | sl0 T t l hd A hl hn=>exact .sl0 T t l hd A hl hn
   | sl _ _ _ q cs hd A=>rw [R] at A; cases A
   | mp _ _ _ q _ _ A=>rw [R] at A; cases A
   | si _ q A=>rw [R] at A; cases A
   | km _ q A=>rw [R] at A; cases A
   | fm0=>cases E
   | fm=>cases E
  | some q=>
   obtain ⟨B2,g1,g2⟩:=ksD hr hz E hb R (hp q (.inl R));exact ⟨λ_=>B2,λh2 hh=>g1 h2 (hh q (.inl R)),λq' C=>by have:=ow q' C; rw [R] at this; cases this; exact g2⟩
 | true=>
  obtain ⟨ax,ar⟩:=ai E;cases hb with
  | bx=>cases E
  | el=>cases E
  | sl0=>cases E
  | sl=>cases E
  | mp=>cases E
  | si=>cases E
  | km=>cases E
  | fm0 T t j U u l ho hd A hl hn=>
   refine ⟨λ_=>.map [],λh2 _=>.fm0 T t j U u l ho hd A hl hn,λq C=>?_⟩;rcases C with C | ⟨_,D⟩
   ·rw [A] at C; cases C
   ·unfold kan at D; rw [hn,show kac 0=[] from rfl] at D; cases D
  | fm T t j U u l ho q es hd A hh hn hl hv h0 h1=>
   have hb:BR P κ ln z h N id (.fm T t j U u l ho):=.fm T t j U u l ho q es hd A hh hn hl hv h0 h1;obtain ⟨b,cc,e1,e2,e3⟩:=hr.blk q _ hh;let Q:Nat->Nat->AV->Prop:=λi F a'=>a'.one=true/\(∀ x,l[i]?=some x->(F≠j->(t.enc x)[F]?=some a')/\(ho≠some (i:Int)->F=j->∀ e,es[i]?=some e->e[j]?=some a'))/\∃ v,cc[i*t.wd+F]?=some v/\VR w O (muP p μ) n a' v
   have ay:∀ (i:Nat) (e:Ya AV) (F:Nat) (a:AV),es[i]?=some e->e[F]?=some a->∃ a',Q i F a':=λi e F a M G=>by
    obtain ⟨k1,k2⟩:=e3 i e M;obtain ⟨l1,v,l2,l3⟩:=k2 F a G;have az:=(jae.1 M).1;have S:l[i]?=some (l[i]'(by omega)):=jaf _;have W:(kac (ln id))[i]?=some ((kac (ln id))[i]'(by omega)):=jaf _;by_cases K:F=j
    ·subst K;by_cases J:ho=some (i:Int)
     ·exact ⟨.sc v,l3.one l1,λx aa=>⟨λhc=>absurd rfl hc,λhc=>absurd J hc⟩,v,l2,.sc v (l3.one l1)⟩
     ·obtain ⟨g1,g2,ys,g3,g4,g5⟩:=hv i _ e _ S M W J;refine ⟨a,l1,λx aa=>⟨λhc=>absurd rfl hc,λ_ _ e' H=>?_⟩,v,l2,?_⟩
      ·rw [M] at H; cases H; exact G
      ·generalize (kac (ln id))[i]'(by omega)=rm at g5;obtain ⟨r,m⟩:=rm;cases r with
       | none=>obtain ⟨g6,_⟩:=g5; rw [G] at g6; cases g6; exact l3.freeP (.sc _)
       | some r=>obtain ⟨g6,_⟩:=g5; rw [G] at g6; cases g6; exact l3.ownP (.inr (.inl ⟨_,_,_,rfl⟩))
    ·obtain ⟨a',I⟩:=kag (l:=t.enc (l[i]'(by omega))) (l':=e) (by rw [(h1 e (jai M)).1,kaf t _ hd]) G;have g2:Snap z a a':=by
      by_cases J:ho=some (i:Int)
      ·exact h0.2 i _ e J S M F a a' K G I
      ·exact (hv i _ e _ S M W J).2.1 F a a' K G I
     refine ⟨a',g2.one l1,λx aa=>⟨λ_=>?_,λ_ hc=>absurd hc K⟩,v,l2,VR.snapP hr hz g2 l3⟩;rw [S] at aa; cases aa; exact I
   obtain ⟨es',c1,c2⟩:=kqj es Q ay;let Y:Nat->Ya (Ya AV)->Prop:=λr ys=>∃ (i m:Nat) (x:t.den),(kac (ln id))[i]?=some (some r,m)/\l[i]?=some x/\(t.enc x)[j]?=some (.sl ys)
   have hY:∀ r∈kan (ln id),∃ ys,Y r ys:=λr D=>by
    obtain ⟨i,m,x,e,a1,a2,a3,a4,a5,ys,a6,a7⟩:=hb.row D;exact ⟨ys,i,m,x,a1,a2,a6⟩
   have hYu:∀ r ys ae,Y r ys->Y r ae->ys=ae:=λr ys ae ⟨i,m,x,a1,a2,a3⟩ ⟨i',m',x',b1,b2,b3⟩=>by
    have:=kqA ax a1 b1;subst this;rw [a2] at b2; cases b2;rw [a3] at b3; cases b3; rfl
   classical
   let f:Nat->ABlk:=λr=>if r=q then .cells t.wd T es' else if Z:∃ ys,Y r ys then .cells u.wd U (Classical.choose Z) else .map []
   have fq:f q = .cells t.wd T es':=if_pos rfl;have fr:∀ {r:Nat} {ys:Ya (Ya AV)},r∈kan (ln id)->Y r ys->f r = .cells u.wd U ys:=λ{r ys} D Z=>by
    have aw:r≠q:=λe=>ar r D (by rw [e]; exact A);have aq:∃ ys,Y r ys:=⟨ys,Z⟩;simp only [f,if_neg aw,dif_pos aq];rw [hYu r _ _ (Classical.choose_spec aq) Z]
   have rowE:∀ {i:Nat} {x:t.den} {ys ws:Ya (Ya AV)},l[i]?=some x->(t.enc x)[j]?=some (.sl ys)->SnapE z ws ys->(∀ y∈ws,y.length=u.wd/\∀ a∈y,a.one=true)->(∀ y∈ys,FreeL y)/\∀ y∈ys,y.length=u.wd/\∀ a∈y,a.one=true:=λ{i x ys ws} S hj hs ho=>by
    have ab:Free (.sl ys):=kaX t x hd _ (jai hj);refine ⟨λy Z=>(kjX ys).1 ab y Z,λy Z=>?_⟩;obtain ⟨k,R⟩:=jde Z;obtain ⟨w0,am⟩:=kag hs.1 R;have ad:=hs.2 k w0 y am R;obtain ⟨o1,o2⟩:=ho w0 (jai am);refine ⟨by rw [ad.len]; exact o1,λa G=>?_⟩;obtain ⟨k',ah⟩:=jde G;obtain ⟨a0,X⟩:=kag ad.len ah;exact (ad.at k' a0 a X ah).one (o2 a0 (jai X))
   refine ⟨f,λh2 al=>?_,λq' C=>?_⟩
   ·have ac:=al q (.inl A);rw [fq] at ac;refine .fm T t j U u l ho q es' hd A ac hn (by rw [c1,hl]) (λi x e' rm S H W J=>?_) ⟨h0.1,λi x e' _ S H F b b' K hb aj=>by
      obtain ⟨e,M,L,hQ⟩:=c2 i e' H;have:=((hQ F b hb).2.1 x S).1 K;rw [this] at aj; cases aj;exact .free _ (kaX t x hd _ (jai this))⟩ (λe' H=>?_)
    ·obtain ⟨e,M,L,hQ⟩:=c2 i e' H;obtain ⟨g1,g2,ys,g3,g4,g5⟩:=hv i x e rm S M W J;refine ⟨by rw [L,g1],λF a a' K G I=>?_,ys,g3,g4,?_⟩
     ·have:=((hQ F a G).2.1 x S).1 K;rw [this] at I; cases I;exact .free _ (kaX t x hd _ (jai this))
     ·have ao:∀ {a:AV},e[j]?=some a->e'[j]?=some a:=λ{a} G=>by
       obtain ⟨a',I⟩:=kag L.symm G;have:=((hQ j a' I).2.1 x S).2 J rfl e M;rw [this] at G; cases G; exact I
      obtain ⟨r,m⟩:=rm;cases r with
      | none=>exact ⟨ao g5.1,g5.2⟩
      | some r=>
       obtain ⟨g6,ws,g7,g8,g9⟩:=g5;have D:=kav W;have ab:=al r (.inr ⟨rfl,D⟩);rw [fr D ⟨i,m,x,W,S,g3⟩] at ab;obtain ⟨k1,k2⟩:=rowE S g3 g8 g9;exact ⟨ao g6,ys,ab,SnapE.free k1,k2⟩
    ·obtain ⟨i,hi⟩:=jde H;obtain ⟨e,M,L,hQ⟩:=c2 i e' hi;refine ⟨by rw [L]; exact (h1 e (jai M)).1,λa G=>?_⟩;obtain ⟨F,au⟩:=jde G;exact (hQ F a au).1
   ·have ap:muP p μ q' = μ q':=by simp [muP,hp q' C]
    by_cases ak:q'=q
    ·subst ak;rw [fq];refine ⟨b,cc,ap.trans e1,e2,λi e' H=>?_⟩;obtain ⟨e,M,L,hQ⟩:=c2 i e' H;refine ⟨by rw [L]; exact (h1 e (jai M)).1,λF a G=>?_⟩;obtain ⟨o1,_,v,o2,o3⟩:=hQ F a G;exact ⟨o1,v,o2,o3⟩
    ·have D:q'∈kan (ln id):=by
      rcases C with C | ⟨_,C⟩
      ·rw [A] at C; cases C; exact absurd rfl ak
      ·exact C
     obtain ⟨i,m,x,e,a1,a2,a3,a4,a5,ys,a6,a7,g6,ws,g7,g8,g9⟩:=hb.row D;rw [fr D ⟨i,m,x,a1,a2,a6⟩];obtain ⟨k1,k2⟩:=rowE a2 a6 g8 g9;obtain ⟨b,cc,e1,e2,e3⟩:=hr.blk q' _ g7;refine ⟨b,cc,ap.trans e1,e2,λi y Z=>?_⟩;obtain ⟨y0,an⟩:=kag g8.1 Z;have af:=g8.2 i y0 y an Z;obtain ⟨k3,k4⟩:=e3 i y0 an;refine ⟨(k2 y (jai Z)).1,λF a G=>?_⟩;obtain ⟨a0,X⟩:=kag af.len G;obtain ⟨l1,v,l2,l3⟩:=k4 F a0 X;exact ⟨(af.at F a0 a X G).one l1,v,l2,kih hr hz af F a0 a X G v l3⟩
end
end Go.Abs
