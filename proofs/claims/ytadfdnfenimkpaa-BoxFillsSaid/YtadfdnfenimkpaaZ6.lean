/- The machinery, part 6. -/
import Derived.ProofKit
import Derived.Test.YtadfdnfenimkpaaZ2
import Derived.Test.YtadfdnfenimkpaaZ3
import Derived.Test.YtadfdnfenimkpaaZ4
import Derived.Test.YtadfdnfenimkpaaZ5
set_option linter.constructorNameAsVariable false
set_option linter.unusedVariables false
set_option linter.unusedSimpArgs false
set_option linter.unusedSectionVars false
namespace Go.Abs
open Go Go.RowKit
section
variable {P:Program} {κ κ':Nat→Option Nat} {ln ln':Nat→Nat} {z z':AH} {c:Cx sem} {s:TS sem} {env:Env} {h h':AH} {n n' N N':Nat}
variable {ρ:Ty} {Kf:TV sem→TS sem→sem.Ans ρ} {r:ρ.den}
theorem keu {α:Type} {a:Array α} {l:List α} (h:a.toList=l):a=l.toArray:=by rw [←h]
theorem kho {Δ:List (FuncId×Ctr)} {args:List (TV sem)} {M:CtrM}:∀ {l:List CtrM},pickM c Δ s args l=some M→M∈l
 | [],h=>by cases h
 | C::l,h=>by
  unfold pickM at h
  split at h
  ·cases h; exact List.mem_cons_self ..
  ·exact List.mem_cons_of_mem _ (kho h)
theorem klW {Δ:List (FuncId×Ctr)}:∀ {ts:List Ty} {vs:List (TV sem)} {l:List ((t:Ty)×t.den)} {ids:List Nat},kcu (A:=sem) c Δ s ts vs=some (l,ids)→l.length=ts.length
 | [],[],l,ids,hs=>by cases hs; rfl
 | [],_::_,l,ids,hs=>by simp [kcu] at hs
 | _::_,[],l,ids,hs=>by simp [kcu] at hs
 | t::ts,v::vs,l,ids,hs=>by
  simp only [kcu,Option.bind_eq_some_iff,Option.map_eq_some_iff] at hs
  obtain ⟨⟨x,i1⟩,hx,⟨l',i2⟩,hl,he⟩:=hs
  cases he
  simp [klW hl]
theorem ktb {s s':TS sem} {A:List (Nat×Option (TB sem))} (h:s'.hp=A++s.hp):chgd s s'=A.map (·.1):=by
 unfold chgd
 rw [h,List.length_append,Nat.add_sub_cancel,List.take_left]
theorem kqX {C:CtrM} {u:TS sem} {ids:List (Nat×Nat)} {x:Nat×Nat} (hx:x∈ids):x.2∈chgd s (kek C s u ids):=by
 rw [ktb (s':=kek C s u ids) rfl,List.map_append]
 exact List.mem_append_right _ (List.mem_map.2 ⟨(x.2,none),List.mem_map.2 ⟨x,hx,rfl⟩,rfl⟩)
theorem kgJ {Δ:List (FuncId×Ctr)} (hΔ:Goods P Δ) {g:FuncId} {C:CtrM} (hok:C.ok=true) (hG:GoodM P g C) (R:Rel P κ ln z c s env h n) {args:List (TV sem)} {as:List AV} (hargs:TVRs P κ ln z s.n args as) (hk:kgC c Δ s C args Kf=some r) {K:K3}
  (hK:∀ tv s' v h' n' κ' ln',Kf tv s'=some r→Ke c s.n κ ln κ' ln'→s.n≤s'.n→Rel P κ' ln' ahN c s' env h' n'→TVR P κ' ln' ahN s'.n tv v→(∀ q,q<n→h' q=h q∨∃ id∈chgd s s',(∃ B,thp c s id=some B)∧q∈ows κ ln c s id)→K v h' n'):HC P g as h n K:=by
 unfold kgC at hk
 split at hk
 ·exact kaa hk
 ·rename_i hcond
  simp only [Bool.or_eq_true,decide_eq_true_eq,Bool.not_eq_true',not_or,Bool.not_eq_true,Bool.not_eq_false,ne_eq,Decidable.not_not] at hcond
  obtain ⟨⟨hlen,hdy⟩,_⟩:=hcond
  split at hk
  ·rename_i l hl
   split at hk
   ·rename_i m hm
    split at hk
    ·rename_i hchk
     rw [Bool.and_eq_true,Bool.and_eq_true] at hchk
     split at hk
     ·rename_i a ha
      obtain ⟨y,hy,hk⟩:=Option.bind_eq_some_iff.1 hk
      dsimp only at hk
      split at hk
      ·rename_i hu
       rw [Bool.and_eq_true] at hu
       have hz0:=R.dy hdy
       obtain ⟨bs,g1,g2,g3⟩:=kdK hΔ R _ _ _ (kmM C.ks hargs) hl
       subst hz0
       refine krh hG hok R hdy hargs hlen (klW hl) g1 g2 g3 hm (by simpa [List.isEmpty_iff] using hchk.1.1) hchk.1.2 hchk.2 ha hy hu.1 hu.2 fun v h' n' κ' ln' h0 h1 h2 h3=>hK _ _ v h' n' κ' ln' hk h0 (Nat.le_add_right _ _) h1 h2 fun q hq=>(h3 q hq).imp id fun ⟨x,hx,hxq⟩=>⟨x.2,kqX hx,hxq⟩
      ·exact kaa hk
     ·exact kaa hk
    ·exact kaa hk
   ·exact kaa hk
  ·exact kaa hk
theorem kbn {Δ:List (FuncId×Ctr)} (hΔ:Goods P Δ) (R:Rel P κ ln z c s env h n) (o:Oper) (hk:xop P c Δ s o Kf=some r):Res P κ ln z c s env h n o Kf r:=by
 unfold xop at hk
 split at hk
 ·rename_i a hf
  exact krq R o hf hk
 rename_i hf0
 clear hf0
 obtain ⟨d,op,ty,pos,after,g⟩:=o
 simp only at hk
 split at hk
 ·rename_i x; exact kkw (o:=⟨d,.move x,ty,pos,after,g⟩) rfl R (R.ev x) (fun K hk=>by simp only [aop]; exact hk) hk
 ·rename_i x; exact kkw (o:=⟨d,.assign x,ty,pos,after,g⟩) rfl R (R.ev x) (fun K hk=>by simp only [aop]; exact hk) hk
 ·rename_i x a b
  have hx:=R.ev x
  split at hk
  ·rename_i t he
   rw [he] at hx
   generalize hev:ev env x=av at hx
   cases hx
   cases t
   ·exact R.q (fun K hk=>by simp only [aop,hev]; exact hk) (R.ev b) hk
   ·exact R.q (fun K hk=>by simp only [aop,hev]; exact hk) (R.ev a) hk
  ·rename_i y he
   rw [he] at hx
   have hev:=hx.b_inv
   rcases kbz hk with ⟨hb,hk⟩ | ⟨hb,hk⟩
   ·rw [hb] at hev; exact R.q (fun K hk=>by simp only [aop,hev]; exact hk) (R.ev a) hk
   ·rw [hb] at hev; exact R.q (fun K hk=>by simp only [aop,hev]; exact hk) (R.ev b) hk
  ·exact kaa hk
 ·exact kox R hk
 ·exact kqT R (R.ev _) hk
 ·exact kqc R (R.ev _) hk
 ·exact kpE R (R.ev _) (R.ev _) hk
 ·exact kqS R (R.ev _) hk
 ·exact krj R (R.ev _) (R.ev _) hk
 ·exact krD R (R.ev _) hk
 ·exact kpK R (R.ev _) hk
 ·rename_i f first caps
  split at hk
  ·rename_i hfi
   have hf:first = #[]:=by simpa [Array.isEmpty_iff] using hfi
   refine R.q (fun K hk=>by simp only [aop]; exact ⟨hf,hk⟩) (.fn f _ (caps.toList.map (ev env)) ?_) hk
   generalize caps.toList=l
   induction l with
   | nil=>exact .nil
   | cons x l ih=>exact .cons _ _ _ _ (R.ev x) ih
  ·exact kaa hk
 ·exact kkS R hk
 ·exact koZ R (R.ev _) hk
 ·exact kkW R (R.ev _) hk
 ·exact koF R (R.ev _) hk
 ·exact kmk R (R.ev _) (R.ev _) hk
 ·exact kqW R (R.ev _) (R.ev _) hk
 ·rename_i x i
  have hx:=R.ev x
  split at hk
  ·rename_i vs he
   rw [he] at hx
   generalize hev:ev env x=av at hx
   cases hx with
   | tp _ as hvs=>
    split at hk
    ·rename_i v hv
     obtain ⟨a,ha,hva⟩:=hvs.at hv
     exact R.q (fun K hk=>s_ext hev ha hk) hva hk
    ·exact kaa hk
  ·exact kaa hk
 ·exact kpu R hk
 ·exact kke R hk
 ·exact kmE R hk
 ·exact knL R (R.ev _) (R.ev _) hk
 ·exact knH R (R.ev _) (R.ev _) (R.ev _) hk
 ·exact kpc R (R.ev _) hk
 ·exact kqn R (R.ev _) hk
 ·exact absurd (show (none:Option ρ.den)=some r from hk) (by simp)
 ·rename_i l
  obtain ⟨callee,args,ts⟩:=l
  split at hk
  ·rename_i b hb
   simp only at hb
   subst hb
   split at hk
   ·rename_i x T h1 h2
    obtain rfl:=keu h1
    obtain rfl:=keu h2
    exact kqY R (R.ev _) hk
   ·rename_i x y T T2 h1 h2
    obtain rfl:=keu h1
    obtain rfl:=keu h2
    exact krf R (R.ev _) (R.ev _) hk
   ·rename_i x y T T2 h1 h2
    obtain rfl:=keu h1
    obtain rfl:=keu h2
    exact kpM R (R.ev _) (R.ev _) hk
   ·rename_i x y h1
    obtain rfl:=keu h1
    exact kna (mx:=false) R (R.ev _) (R.ev _) hk
   ·rename_i x y h1
    obtain rfl:=keu h1
    exact kna (mx:=true) R (R.ev _) (R.ev _) hk
   ·rename_i x y q h1
    obtain rfl:=keu h1
    exact klA (mx:=false) R (R.ev _) (R.ev _) (R.ev _) hk
   ·rename_i x y q h1
    obtain rfl:=keu h1
    exact klA (mx:=true) R (R.ev _) (R.ev _) (R.ev _) hk
   ·exact kaa hk
  ·rename_i f hf
   exact kpR hΔ R hf hk
  ·exact kaa hk
 ·exact kaa hk
theorem kok {p:Pat} {i:Nat} (R:Rel P κ ln z c s env h n) {v:TV sem} {a:AV} (hv:TVR P κ ln z s.n v a) :
  ∃ κ' ln',Rel P κ' ln' z c (khS (A:=sem) p i v s).2 env h n∧TVR P κ' ln' z (khS (A:=sem) p i v s).2.n (khS (A:=sem) p i v s).1 a∧(∀ id,id<s.n→κ' id = κ id∧ln' id=ln id)∧s.n≤(khS (A:=sem) p i v s).2.n:=by
 have same:∃ κ' ln',Rel P κ' ln' z c s env h n∧TVR P κ' ln' z s.n v a∧(∀ id,id<s.n→κ' id = κ id∧ln' id=ln id)∧s.n≤s.n:=⟨κ,ln,R,hv,fun _ _=>⟨rfl,rfl⟩,Nat.le_refl _⟩
 unfold khS
 split
 ·rename_i u q hq
  split
  ·rename_i T t ht
   split
   ·rename_i hc
    simp only [Bool.and_eq_true] at hc
    obtain ⟨hn,hd⟩:=hc
    obtain rfl:=kaL hn
    cases hv
    have R':=R.new (h':=h) (n':=n) (.sl T t []) none 0 (fun q B hq=>hq) (Nat.le_refl _) (fun q hq=>by cases hq) R.hn (.sl0 T t [] hd updK_self rfl updK_self)
    exact ⟨_,_,R',.mw0 s.n (Nat.lt_succ_self _) updK_self,fun id hi=>⟨kas hi,kas hi⟩,Nat.le_succ _⟩
   ·exact same
  ·exact same
 ·exact same
theorem kiL {p:Pat}:∀ {vs:List (TV sem)} {as:List AV} {i:Nat} {κ:Nat→Option Nat} {ln:Nat→Nat} {s:TS sem},Rel P κ ln z c s env h n→TVRs P κ ln z s.n vs as→
  ∃ κ' ln',Rel P κ' ln' z c (kgw (A:=sem) p vs i s).2 env h n∧TVRs P κ' ln' z (kgw (A:=sem) p vs i s).2.n (kgw (A:=sem) p vs i s).1 as∧(∀ id,id<s.n→κ' id = κ id∧ln' id=ln id)∧s.n≤(kgw (A:=sem) p vs i s).2.n
 | [],_,i,κ,ln,s,R,.nil=>⟨κ,ln,R,.nil,fun _ _=>⟨rfl,rfl⟩,Nat.le_refl _⟩
 | v::vs,_,i,κ,ln,s,R,.cons _ a _ as hv hs=>by
  obtain ⟨κ1,ln1,R1,hv1,k1,n1⟩:=kok (p:=p) (i:=i) R hv
  have hs1:=hs.mono (fun id hi=>(k1 id hi).1) (fun id hi=>(k1 id hi).2) (fun _ _ h=>h) n1
  obtain ⟨κ2,ln2,R2,hs2,k2,n2⟩:=kiL (p:=p) (i:=i+1) R1 hs1
  exact ⟨κ2,ln2,R2,.cons _ _ _ _ (hv1.mono (fun id hi=>(k2 id hi).1) (fun id hi=>(k2 id hi).2) (fun _ _ h=>h) n2) hs2,fun id hi=>⟨((k2 id (by omega)).1).trans (k1 id hi).1,((k2 id (by omega)).2).trans (k1 id hi).2⟩,Nat.le_trans n1 n2⟩
def nilB (ne:Bool) (e:Option Bool) (b:Bool):Prop:=
 match e with
 | some e=>e=false→b=ne
 | none=>b = !ne
theorem ksZ {P:Program} {h:AH} {op:BinOp} {T:TypeId} {a:AV} {e:Option Bool} (hT:(elemO P T).isSome=true) (ho:op = .eql∨op = .neq) (F:AV→Prop)
  (hv:∀ (w:World) (O:Nat→Prop) (μ:Mu) (n:Nat) (u:Value),HR w O μ h n→VR w O μ n a u→∃ p l c,u = .slice p l c∧nilB false e p.isNone)
  (hF:∀ b,nilB (op == .neq) e b→F (.sc (.bool b))) (hd:∀ k x,a≠.sc (.int k x)) (hs:∀ x,a≠.sc (.string x)) (hb:∀ x,a≠.sc (.bool x)):abin P h op T a (.sc (.slice none 0 0)) F:=by
 obtain ⟨E,hE⟩:=Option.isSome_iff_exists.1 hT
 have hU:=kbN hE
 have hc:=ksS (S:=nilB false e) hU hv
 have:∃ S,Cmp P h op T a (.sc (.slice none 0 0)) S∧∀ b,S b→F (.sc (.bool b)):=by
  rcases ho with rfl | rfl
  ·exact ⟨_,hc.1,fun b hb=>hF b hb⟩
  ·refine ⟨_,hc.2,fun b hb=>hF b ?_⟩
   cases e <;> simp [nilB] at hb ⊢
   ·exact hb
   ·intro h1; have:=hb h1; cases b <;> simp at this ⊢
 unfold abin
 split
 ·rename_i h1 h2; cases h2
 ·rename_i h1 h2; cases h2
 ·rename_i h1 h2; cases h2
 ·exact this
theorem kin (R:Rel P κ ln z c s env h n) {o:Oper} {ne:Bool} {e:Option Bool} (hn:nilC (A:=sem) P c s o=some (ne,e)) {K:K3} (hK:∀ b,nilB ne e b→K (.sc (.bool b)) h n):aop P env h n o K:=by
 obtain ⟨d,op,ty,pos,after,g⟩:=o
 unfold nilC at hn
 split at hn
 ·rename_i bop T x v T2 hop
  simp only at hop; subst hop
  split at hn
  ·rename_i hcond
   simp only [Bool.and_eq_true,Bool.or_eq_true,beq_iff_eq] at hcond
   obtain ⟨⟨hv,hT⟩,hbop⟩:=hcond
   have hv:=kaL hv
   subst hv
   have hx:=R.ev x
   have ms:∀ {q off len:Nat} {k:Nat} {T':TypeId} {es:List (List AV)} {e:Option Bool},(e≠none)→h q=some (.cells k T' es)→∀ (w:World) (O:Nat→Prop) (μ:Mu) (n:Nat) (u:Value),HR w O μ h n→VR w O μ n (.ms q off len) u→∃ p l c,u = .slice p l c∧nilB false e p.isNone:=by
    intro q off len k T' es e he hq w O μ n u hr hu
    obtain ⟨b,cc,h1,h2,h3⟩:=hr.own_cells hq
    cases hu with
    | ms _ _ _ _ hlt h1' hv=>
     obtain ⟨o,cap,c,T,rfl,_⟩:=hv b k h1
     refine ⟨_,_,_,rfl,?_⟩
     cases e with
     | none=>exact absurd rfl he
     | some e=>intro _; rfl
   have nl:∀ {e:Option Bool},(e=none∨e=some true)→∀ (w:World) (O:Nat→Prop) (μ:Mu) (n:Nat) (u:Value),HR w O μ h n→VR w O μ n Abs.nilS u→∃ p l c,u = .slice p l c∧nilB false e p.isNone:=by
    intro e he w O μ n u hr hu
    refine ⟨none,0,0,hu.sc_inv,?_⟩
    rcases he with rfl | rfl
    ·rfl
    ·intro h; cases h
   have fin:∀ {a:AV} {e:Option Bool},ev env x=a→(∀ b,nilB (bop == .neq) e b→K (.sc (.bool b)) h n)→(∀ (w:World) (O:Nat→Prop) (μ:Mu) (n:Nat) (u:Value),HR w O μ h n→VR w O μ n a u→∃ p l c,u = .slice p l c∧nilB false e p.isNone)→(∀ k x,a≠.sc (.int k x))→(∀ x,a≠.sc (.string x))→(∀ x,a≠.sc (.bool x))→
     aop P env h n ⟨d,.binOp bop T x (.const (.slice none 0 0)) T2,ty,pos,after,g⟩ K:=by
    intro a e ha hK hv h1 h2 h3
    simp only [aop,ha]
    exact ksZ hT hbop _ hv hK h1 h2 h3
   generalize htx:tev c s x=tv at hn hx
   split at hn
   ·rename_i t l
    cases hn
    cases hx with
    | c _ _ a hd hs=>
     replace hs:Snap z _ (.sl (l.map t.enc)):=hs
     rcases hs.sl_inv with ⟨es,ha,h1⟩ | ⟨ha,h1⟩ | ⟨id,off,len,k,T',es,ha,h1,h2,h3⟩
     ·refine fin ha hK (fun w O μ n u hr hu=>?_) (by intros; simp) (by intros; simp) (by intros; simp)
      obtain ⟨p,l',c',rfl,hp⟩:=kue hu
      refine ⟨_,_,_,rfl,fun hl=>hp ?_⟩
      have:=h1.1
      rw [List.length_map] at this
      intro he; subst he
      have:l=[]:=List.eq_nil_of_length_eq_zero (by simpa using this)
      subst this; simp [isE] at hl
     ·simp only [List.map_eq_nil_iff] at h1; subst h1
      exact fin ha hK (nl (.inr rfl)) (by intros; simp [Abs.nilS]) (by intros; simp [Abs.nilS]) (by intros; simp [Abs.nilS])
     ·exact fin ha hK (ms (by simp) (R.zin _ _ h1)) (by intros; simp) (by intros; simp) (by intros; simp)
   ·rename_i id
    split at hn
    ·rename_i T' t l hb
     cases hn
     have hB:=R.blk _ _ hb
     generalize hax:ev env x=a at hx
     cases hx with
     | mw0 _ hN hκ=>
      cases hB with
      | sl0 _ _ _ hd hq hl hn=>subst hl; exact fin hax hK (nl (.inr rfl)) (by intros; simp [Abs.nilS]) (by intros; simp [Abs.nilS]) (by intros; simp [Abs.nilS])
      | sl _ _ _ q es hd hq=>rw [hκ] at hq; cases hq
     | mw _ q hN hκ=>
      cases hB with
      | sl0 _ _ _ hd hq hl hn=>rw [hκ] at hq; cases hq
      | sl _ _ _ q' es hd hq hh=>rw [hκ] at hq; cases hq; exact fin hax hK (ms (by simp) hh) (by intros; simp) (by intros; simp) (by intros; simp)
    ·cases hn
   ·rename_i u
    split at hn
    ·rename_i hu
     cases hn
     have hu:=kaL hu
     subst hu
     generalize hax:ev env x=a at hx
     cases hx with
     | sc _ h1=>exact fin hax hK (nl (.inl rfl)) (by intros; simp) (by intros; simp) (by intros; simp)
    ·cases hn
   ·cases hn
  ·cases hn
 ·cases hn
theorem knd:∀ {l:List (sem.Ans ρ)},altL (A:=sem) l=some r→∃ x∈l,x=some r
 | [],h=>by cases h
 | [x],h=>⟨x,by simp,h⟩
 | x::y::l,h=>by
  rcases ksg h with h | h
  ·exact ⟨x,by simp,h⟩
  ·obtain ⟨z,hz,e⟩:=knd h
   exact ⟨z,by simp only [List.mem_cons] at hz ⊢; exact .inr hz,e⟩
theorem kqZ {Δ:List (FuncId×Ctr)} (hΔ:Goods P Δ) (R:Rel P κ ln z c s env h n) (o:Oper) (hk:xopM P c Δ s o Kf=some r) {K:K3}
  (hK:∀ tv s' v h' n' κ' ln' z',Kf tv s'=some r→Ke c s.n κ ln κ' ln'→s.n≤s'.n→Rel P κ' ln' z' c s' env h' n'→TVR P κ' ln' z' s'.n tv v→K v h' n'):aop P env h n o K:=by
 unfold xopM at hk
 split at hk
 ·rename_i M args hu
  obtain ⟨d,op,ty,pos,after,g⟩:=o
  unfold useM at hu
  simp only at hu
  split at hu
  ·rename_i l
   split at hu
   ·rename_i f hf
    split at hu
    ·rename_i gg caps hfe
     split at hu
     ·rename_i C hC
      obtain ⟨M',hM,he⟩:=Option.map_eq_some_iff.1 hu
      cases he
      have hargs:TVRs P κ ln z s.n (l.args.toList.map (tev c s)) (l.args.toList.map (ev env)):=by
       generalize l.args.toList=xs
       induction xs with
       | nil=>exact .nil
       | cons x xs ih=>exact .cons _ _ _ _ (R.ev x) ih
      have hff:=R.ev f
      rw [hfe] at hff
      obtain ⟨as,hfa,hcaps⟩:=hff.fn_inv
      have one:∀ M∈C.mus,kgC c Δ s M (l.args.toList.map (tev c s)++caps) Kf=some r→aop P env h n ⟨d,.call l,ty,pos,after,g⟩ K:=fun M hM hk=>by
       have hG:=(hΔ.at hC).2.2.1 M hM
       exact keX hf hfa rfl (kgJ hΔ hG.1 hG.2 R (hargs.append hcaps) hk fun tv s' v h' n' κ' ln' h1 h2 h3 h4 h5 _=>hK tv s' v h' n' κ' ln' ahN h1 h2 h3 h4 h5)
      split at hk
      ·exact one M (kho hM) hk
      ·obtain ⟨x,hx,e⟩:=knd hk
       obtain ⟨M2,hM2,rfl⟩:=List.mem_map.1 hx
       unfold altsM at hM2
       simp only [hf,hfe,hC] at hM2
       exact one M2 (List.mem_filter.1 hM2).1 e
     ·cases hu
    ·cases hu
   ·cases hu
  ·cases hu
 ·rename_i hnone
  clear hnone
  split at hk
  ·rename_i M args s1 hu
   obtain ⟨d,op,ty,pos,after,g⟩:=o
   unfold useN at hu
   simp only at hu
   split at hu
   ·rename_i l
    split at hu
    ·rename_i f hf
     split at hu
     ·rename_i gg caps hfe
      split at hu
      ·rename_i C hC
       obtain ⟨M0,hM0,he⟩:=List.exists_of_findSome?_eq_some hu
       obtain ⟨M',hM,he⟩:=Option.map_eq_some_iff.1 he
       have hmem:M'=M0:=by simpa using kho hM
       rw [hmem] at he
       cases he
       have hG:=(hΔ.at hC).2.2.1 M hM0
       have hargs:TVRs P κ ln z s.n (l.args.toList.map (tev c s)) (l.args.toList.map (ev env)):=by
        generalize l.args.toList=xs
        induction xs with
        | nil=>exact .nil
        | cons x xs ih=>exact .cons _ _ _ _ (R.ev x) ih
       have hff:=R.ev f
       rw [hfe] at hff
       obtain ⟨as,hfa,hcaps⟩:=hff.fn_inv
       obtain ⟨κ1,ln1,R1,ha1,k1,n1⟩:=kiL (p:=M.inp) (i:=0) R (hargs.append hcaps)
       have ke1:Ke c s.n κ ln κ1 ln1:=fun id hi=>⟨(k1 id hi).1,fun _=>(k1 id hi).2⟩
       exact keX hf hfa rfl (kgJ hΔ hG.1 hG.2 R1 ha1 hk fun tv s' v h' n' κ' ln' h1 h2 h3 h4 h5 _=>hK tv s' v h' n' κ' ln' ahN h1 (ke1.trans h2 n1) (Nat.le_trans n1 h3) h4 h5)
      ·cases hu
     ·cases hu
    ·cases hu
   ·cases hu
  ·split at hk
   ·rename_i ne e hn
    rcases kbz hk with ⟨he,hk⟩ | ⟨he,hk⟩
    ·obtain ⟨k1,k2⟩:=knr hk
     refine kin R hn fun b hb=>?_
     cases b
     ·exact hK _ s _ h n κ ln z k2 .refl (Nat.le_refl _) R (.kb false)
     ·exact hK _ s _ h n κ ln z k1 .refl (Nat.le_refl _) R (.kb true)
    ·refine kin R hn fun b hb=>?_
     obtain rfl:=hb (by simpa using he)
     exact hK _ s _ h n κ ln z hk .refl (Nat.le_refl _) R (.kb _)
   ·rename_i ne hn
    refine kin R hn fun b hb=>?_
    subst hb
    exact hK _ s _ h n κ ln z hk .refl (Nat.le_refl _) R (.kb _)
   ·obtain ⟨tv,s',v,h',n',κ',ln',z',g1,g2,g3,g4,g6,g7,_⟩:=kbn hΔ R o hk
    exact g1 _ (hK tv s' v h' n' κ' ln' z' g2 g7 g6 g3 g4)
theorem Rel.putT (R:Rel P κ ln z c s env h n) {v:TV sem} {a:AV} (hv:TVR P κ ln z s.n v a) (d:Option Tmp) (hd:∀ x,d=some x→alk c.e0 x=none):Rel P κ ln z c (Abs.putT s d v) (putE env d a) h n:=by
 cases d with
 | none=>exact R
 | some d=>
  refine ⟨fun x=>?_,R.blk,R.lt,R.inj,R.zin,R.zout,R.bnd,R.hn,fun x v' hx=>?_,R.g,R.dy,R.zk,R.fam⟩
  ·show TVR P κ ln z s.n (tlk c { s with env:=(d,v)::s.env } x) (if x=d then a else lk env x)
   unfold tlk
   simp only [alk]
   by_cases hxd:x=d
   ·rw [if_pos hxd,if_pos hxd]; exact hv
   ·rw [if_neg hxd,if_neg hxd]; exact R.env x
  ·simp only [Abs.putT,alk] at hx
   split at hx
   ·rename_i e; subst e; exact hd _ rfl
   ·exact R.e0 x v' hx
theorem kkY {ds:List (Option Tmp)} (h:okD c ds=true) {j:Nat} {x:Tmp} (hj:kaB ds j=some x):alk c.e0 x=none:=by
 unfold kaB at hj
 cases hd:ds[j]? with
 | none=>rw [hd] at hj; cases hj
 | some d=>
  rw [hd] at hj
  simp only [Option.bind_some,id] at hj
  subst hj
  have:=List.all_eq_true.1 h _ (List.mem_of_getElem? hd)
  simpa using this
theorem kmQ {ds:List (Option Tmp)} (h:okD c ds=true) {d:Option Tmp} (hd:d∈ds):∀ x,d=some x→alk c.e0 x=none:=fun x hx=>by
 subst hx
 have:=List.all_eq_true.1 h _ hd
 simpa using this
theorem Rel.again {env':Env} (R:Rel P κ ln z c s env h n) (he:∀ x,lk env' x=lk env x):Rel P κ ln z c s env' h n:=
 ⟨fun x=>by rw [he]; exact R.env x,R.blk,R.lt,R.inj,R.zin,R.zout,R.bnd,R.hn,R.e0,R.g,R.dy,R.zk,R.fam⟩
theorem Rel.know (R:Rel P κ ln z c s env h n) {d:Tmp} {v:TV sem} {a:AV} (hv:TVR P κ ln z s.n v a) (hd:alk c.e0 d=none):Rel P κ ln z c { s with env:=(d,v)::s.env } ((d,a)::env) h n:=
 R.putT hv (some d) fun x hx=>by cases hx; exact hd
theorem kbr {d:Option Tmp} {v:TV sem}:(Abs.putT s d v).n=s.n:=by cases d <;> rfl
theorem kcc {Δ:List (FuncId×Ctr)} (hΔ:Goods P Δ) {ds:List (Option Tmp)} (hds:okD c ds=true) {Kf:TS sem→sem.Ans ρ} {K:St→Prop} {N0:Nat} {κ0:Nat→Option Nat} {ln0:Nat→Nat} (hK:∀ κ ln z s' env' h' n',Ke c N0 κ0 ln0 κ ln→Rel P κ ln z c s' env' h' n'→Kf s'=some r→K ⟨env',h',n'⟩) :
  ∀ (l:List Oper) {κ:Nat→Option Nat} {ln:Nat→Nat} {z:AH} {s:TS sem} {env:Env} {h:AH} {n:Nat},Ke c N0 κ0 ln0 κ ln→N0≤s.n→(∀ o∈l,o.dst∈ds)→Rel P κ ln z c s env h n→xops P c Δ ds l s Kf=some r→aops P ds l ⟨env,h,n⟩ K
 | [],κ,ln,z,s,env,h,n,ke,kn,_,R,hk=>hK _ _ _ _ _ _ _ ke R hk
 | o::l,κ,ln,z,s,env,h,n,ke,kn,hl,R,hk=>by
  have hl':∀ o∈l,o.dst∈ds:=fun o ho=>hl o (List.mem_cons_of_mem _ ho)
  have hod:=kmQ hds (hl o (List.mem_cons_self ..))
  have one:∀ {κ:Nat→Option Nat} {ln:Nat→Nat} {z:AH} {s:TS sem} {env:Env} {h:AH} {n:Nat},Ke c N0 κ0 ln0 κ ln→N0≤s.n→Rel P κ ln z c s env h n→(xopM P c Δ s o fun v s'=>xops P c Δ ds l (putT s' o.dst v) Kf)=some r→aop P env h n o fun v h n=>aops P ds l ⟨putE env o.dst v,h,n⟩ K:=fun {κ ln z s env h n} ke kn R hk=>by
   exact kqZ hΔ R o hk fun tv s' v h' n' κ' ln' z' g2 g6 g7 g3 g4=>kcc hΔ hds hK l (ke.trans g6 kn) (by rw [kbr]; omega) hl' (g3.putT g4 o.dst hod) g2
  simp only [xops] at hk
  simp only [aops]
  cases hg:o.guard with
  | none=>
   rw [hg] at hk
   exact one ke kn R hk
  | some jw=>
   obtain ⟨j,want⟩:=jw
   rw [hg] at hk
   simp only at hk ⊢
   cases hs:kaB ds j with
   | none=>rw [hs] at hk; exact kaa hk
   | some d=>
    rw [hs] at hk
    simp only at hk ⊢
    have hde:=kkY hds hs
    have hv:=R.env d
    generalize htl:tlk c s d=tv at hv hk
    generalize hlk:lk env d=a at hv
    cases hv <;> first | exact kaa hk | skip
    ·
     exact kcc hΔ hds hK l ke (by rw [kbr]; exact kn) hl' (R.putT .ud o.dst hod) hk
    ·
     rename_i t x hd hs2
     cases t <;> first | exact kaa hk | skip
     obtain rfl:=hs2.sc_inv
     have k1:∀ w:Bool,x=w→Rel P κ ln z c { s with env:=(d,.kb w)::s.env } ((d,.sc (.bool w))::env) h n:=fun w hw=>R.know (.kb w) hde
     dsimp only at hk
     cases want
     ·dsimp only at hk
      rcases kbz hk with ⟨hb,hk⟩ | ⟨hb,hk⟩
      ·refine ⟨fun e=>?_,fun _=>?_⟩
       ·exact absurd (hb.symm.trans e) (by decide)
       ·exact kcc hΔ hds hK l ke (by rw [kbr]; exact kn) hl' ((k1 true hb).putT .ud o.dst hod) hk
      ·refine ⟨fun _=>?_,fun e=>?_⟩
       ·exact one ke (by exact kn) (k1 false hb) hk
       ·exact absurd (hb.symm.trans e) (by decide)
     ·dsimp only at hk
      rcases kbz hk with ⟨hb,hk⟩ | ⟨hb,hk⟩
      ·refine ⟨fun _=>?_,fun e=>?_⟩
       ·exact one ke (by exact kn) (k1 true hb) hk
       ·exact absurd (hb.symm.trans e) (by decide)
      ·refine ⟨fun e=>?_,fun _=>?_⟩
       ·exact absurd (hb.symm.trans e) (by decide)
       ·exact kcc hΔ hds hK l ke (by rw [kbr]; exact kn) hl' ((k1 false hb).putT .ud o.dst hod) hk
    ·
     rename_i b
     dsimp only at hk
     have ag:Rel P κ ln z c s ((d,.sc (.bool b))::env) h n:=R.again fun x=>by
      show (if x=d then _ else lk env x)=_
      split
      ·rename_i e; rw [e,hlk]
      ·rfl
     split at hk
     ·rename_i hbw
      have hbw:=eq_of_beq hbw
      subst hbw
      refine ⟨fun _=>one ke (by exact kn) ag hk,fun e=>?_⟩
      cases b <;> cases e
     ·rename_i hbw
      refine ⟨fun e=>by rw [e] at hbw; simp at hbw,fun e=>?_⟩
      rw [←e]
      exact kcc hΔ hds hK l ke (by rw [kbr]; exact kn) hl' (ag.putT .ud o.dst hod) hk
end
end Go.Abs
namespace Go.Abs
open Go Go.RowKit
section
variable {P:Program} {κ κ' κ0:Nat→Option Nat} {ln ln':Nat→Nat} {z z':AH} {c:Cx sem} {s:TS sem} {env:Env} {h h' hs:AH} {n n':Nat}
variable {ρ:Ty} {r:ρ.den} {o:Oper} {wc:List Nat} {rd:List (Nat×Nat)} {b1 b2:List Nat} {tr:List Rec} {j:Nat} {next:St→List Rec→Prop}
def RecsOk (P:Program) (rd:List (Nat×Nat)) (κ0:Nat→Option Nat) (b1 b2:List Nat) (hs:AH) (tr:List Rec):Prop:=
 ∀ a∈tr,GH κ0 b1 b2 hs a.h∧GH κ0 b1 b2 hs a.h'∧(rd.any (fun x=>x.1==a.j)=true→∀ h1 n1 (K':K3),GH κ0 b1 b2 hs h1→K' a.v h1 n1→aop P a.env h1 n1 a.o K')
theorem klp {a:Rec} {x:Nat} (h:recOf tr x=some a):a∈tr∧a.j=x:=
 ⟨List.mem_of_find?_eq_some h,by simpa using List.find?_some h⟩
theorem RecsOk.recheck (hT:RecsOk P rd κ0 b1 b2 hs tr):∀ rd',(∀ x∈rd',x∈rd)→recheck P tr rd'
 | [],_=>trivial
 | (x,w)::rest,hm=>by
  refine ⟨?_,hT.recheck rest fun y hy=>hm y (List.mem_cons_of_mem _ hy)⟩
  split
  ·rename_i a b ha hb
   obtain ⟨a1,a2⟩:=klp ha
   obtain ⟨c1,c2⟩:=klp hb
   obtain ⟨_,_,hr⟩:=hT a a1
   obtain ⟨g1,g2,_⟩:=hT b c1
   have hr:=hr (List.any_eq_true.2 ⟨(x,w),hm _ (List.mem_cons_self ..),by simp [a2]⟩)
   split
   ·exact hr _ _ _ g1 ⟨rfl,rfl,rfl⟩
   ·exact hr _ _ _ g2 ⟨rfl,rfl,rfl⟩
  ·trivial
theorem ksK (v:AV) (hw:isW wc j o=false) (hv:∀ K:K3,K v h n→aop P env h n o K) (hk:next ⟨putE env o.dst v,h,n⟩ (if wants rd j then ⟨j,o,env,v,h,n,h,n⟩::tr else tr)):stepD P wc rd o j env h n tr next:=by
 unfold stepD
 rw [if_neg (by rw [hw]; decide)]
 have:∃ v,aop P env h n o (fun a b c=>a=v∧b=h∧c=n)∧next ⟨putE env o.dst v,h,n⟩ (if wants rd j then ⟨j,o,env,v,h,n,h,n⟩::tr else tr):=⟨v,hv _ ⟨rfl,rfl,rfl⟩,hk⟩
 split <;> exact this
theorem ksn (v:AV) (h':AH) (n':Nat) (hw:isW wc j o=true) (hv:aop P env h n o fun a b c=>a=v∧b=h'∧c=n') (hk:next ⟨putE env o.dst v,h',n'⟩ (if wants rd j then ⟨j,o,env,v,h,n,h',n'⟩::tr else tr)):stepD P wc rd o j env h n tr next:=by
 unfold stepD
 rw [if_pos hw]
 exact ⟨v,h',n',hv,hk⟩
theorem kdI (hc:cls o=1∨cls o=2):calm o=true:=by
 obtain ⟨dst,op,ty,pos,after,g⟩:=o
 cases op <;> simp only [cls] at hc <;> try (first | rfl | (exfalso; rcases hc with h | h <;> cases h; done))
 case call l=>
  obtain ⟨callee,args,ts⟩:=l
  cases callee with
  | builtin b=>cases b <;> first | rfl | (exfalso; rcases hc with h | h <;> cases h)
  | value _=>exfalso; rcases hc with h | h <;> cases h
  | invoke _ _=>exfalso; rcases hc with h | h <;> cases h
theorem knu (R:Rel P κ ln z c s env h n) {dst:Option Tmp} {ty:TypeId} {pos:String} {after:Array Edge} {g:Option (Nat×Bool)} {T:TypeId} {len:Nat} {parts:Array (Nat×Operand)} {Kf:TV sem→sem.Ans ρ} (hk:bsX P c s T len parts.toList Kf=some r) :
  ∃ tv v,(∀ h1 n1 (K:K3),K v h1 n1→aop P env h1 n1 ⟨dst,.buildSlice T len parts,ty,pos,after,g⟩ K)∧Kf tv=some r∧TVR P κ ln z s.n tv v:=by
 unfold bsX at hk
 split at hk
 ·exact kaa hk
 ·rename_i e he
  split at hk
  ·rename_i t zs ht hz
   split at hk
   ·rename_i hc
    obtain ⟨hc1,hc2,hc3⟩:=hc
    have hd:=kdl ht
    split at hk
    ·rename_i hl
     split at hk
     ·rename_i ys hp
      obtain ⟨k0,xs,k1,k2,k3⟩:=kgX R hd parts.toList 0 len (by omega) hp
      rw [kaV] at k3
      have hlst:∀ l:List t.den,lstD (A:=sem) t l=l:=by
       intro l
       induction l with
       | nil=>rfl
       | cons a l ih=>simp only [lstD]; rw [ih]
      rw [hlst] at hk
      refine ⟨_,.sl xs,fun h1 n1 K hK=>?_,hk,.c _ _ _ hd (Snap.of_sl k3)⟩
      simp only [aop,he,hz,hc3]
      rw [k2 (List.replicate len zs) (by simp)]
      simp only [List.take_zero,List.nil_append]
      rw [hc3] at hc2
      exact ⟨hc1,hc2,.inr (.inl hK)⟩
     ·exact kaa hk
     ·exact kaa hk
    ·exact kaa hk
   ·exact kaa hk
  ·exact kaa hk
theorem kdE {Δ:List (FuncId×Ctr)} (hΔ:Goods P Δ) (R:Rel P κ ln z c s env h n) {dst:Option Tmp} {ty:TypeId} {pos:String} {after:Array Edge} {g:Option (Nat×Bool)} {l:Call} {f:Operand} (hc:l.callee = .value f) {Kf:TV sem→sem.Ans ρ} (hk:kgV c Δ s (tev c s f) (l.args.toList.map (tev c s)) Kf=some r) :
  ∃ tv v,(∀ h1 n1 (K:K3),(∀ q B,h q=some B→h1 q=some B)→K v h1 n1→aop P env h1 n1 ⟨dst,.call l,ty,pos,after,g⟩ K)∧Kf tv=some r∧TVR P κ ln z s.n tv v:=by
 have hf:=R.ev f
 have hargs:TVRs P κ ln z s.n (l.args.toList.map (tev c s)) (l.args.toList.map (ev env)):=by
  generalize l.args.toList=as
  induction as with
  | nil=>exact .nil
  | cons x as ih=>exact .cons _ _ _ _ (R.ev x) ih
 unfold kgV at hk
 split at hk
 ·rename_i gg caps he
  rw [he] at hf
  obtain ⟨as,hfa,hcaps⟩:=hf.fn_inv
  split at hk
  ·exact kaa hk
  ·rename_i C hC
   have hG:=hΔ.at hC
   split at hk
   ·exact kaa hk
   ·rename_i la ids hla
    obtain ⟨as',g1,g2,g3⟩:=kdK hΔ R _ _ _ (hargs.append hcaps) hla
    split at hk
    ·exact kaa hk
    ·rename_i a ha
     have hAR:=kfS _ _ _ _ g1 ha
     split at hk
     ·rename_i hcond
      simp only [Option.bind_eq_some_iff] at hk
      obtain ⟨y,hy,hk⟩:=hk
      refine ⟨_,_,fun h1 n1 K hh hK=>?_,hk,kjw C.rs y hG.1⟩
      by_cases hflat:C.rs.all Ty.flat=true
      ·exact keX hc hfa rfl (PC.lend1 (g2.mono fun q B hq=>hh q B (kcY R.zin q B hq)) (hG.2.1 a y hy _ hAR) (kpo _ _ hflat) hK)
      ·rw [Bool.not_eq_true] at hflat
       rw [hflat,Bool.false_or,Bool.and_eq_true,List.isEmpty_iff,Bool.not_eq_true'] at hcond
       obtain ⟨rfl,hdy⟩:=hcond
       rw [kaV] at g2
       have hz0:=R.dy hdy
       exact keX hc hfa rfl (PC.eat (hE:=z) (h':=h1) [] (fun i B hi=>by rw [hz0] at hi; cases hi) (fun i B hi=>⟨rfl,hi⟩) g2 (hG.2.1 a y hy _ hAR) hK)
     ·exact kaa hk
 ·rename_i m x y F he
  rw [he] at hf
  split at hk
  ·rename_i hx
   split at hk
   ·exact kaa hk
   ·rename_i la ids hla
    obtain ⟨as',g1,g2,g3,g4,g5⟩:=kep R _ _ _ hargs hla
    split at hk
    ·exact kaa hk
    ·rename_i a ha
     split at hk
     ·rename_i hflat
      simp only [Option.bind_eq_some_iff] at hk
      obtain ⟨w,hw,hk⟩:=hk
      generalize hfe:ev env f=fa at hf
      cases hf with
      | cv _ _ _ _ _ hcv=>
       obtain ⟨gg,as,rfl,hfree,hul,hud,hyd,hpc⟩:=hcv
       have hAR:=kjh hud (kfS _ _ _ _ g1 ha)
       have hp:=hpc _ w hw
       rw [kiG m (untup m x) x hx a hul,←hAR] at hp
       refine ⟨_,_,fun h1 n1 K hh hK=>?_,hk,.free hyd⟩
       exact keX hc hfe rfl (PC.lend1 ((g2.append (SnapL.free hfree)).mono fun q B hq=>hh q B (kcY R.zin q B hq)) hp (kfu _ _ hflat) hK)
     ·exact kaa hk
  ·exact kaa hk
 ·exact kaa hk
theorem krw {v:TV sem} {a:AV} {i:Nat} {N:Nat} (hv:TVR P κ ln z N v a) (ht:tid v=some i):∀ q,avId a=some q→κ i=some q∨(isRow v=true∧q∈kam (ln i)):=by
 intro q hq
 cases hv <;> simp only [tid,Option.some.injEq,reduceCtorEq] at ht <;> subst ht <;> simp only [avId,nilS,Option.some.injEq,reduceCtorEq] at hq <;> subst hq <;> first | (left; assumption) | (right; exact ⟨rfl,kau (by assumption)⟩)
theorem kqa {Δ:List (FuncId×Ctr)} (hΔ:Goods P Δ) (live:∀ id∈b1,∀ q,κ0 id=some q→∃ B,hs q=some B) (sub:∀ id∈b2,id∈b1) {Kf:TV sem→TS sem→sem.Ans ρ}
  (R:Rel P κ ln z c s env h n) (hG:GH κ0 b1 b2 hs h) (hκ:∀ id∈b1,id<s.n∧κ id = κ0 id) (hT:RecsOk P rd κ0 b1 b2 hs tr) (hk:stepX P c Δ wc rd b1 b2 j s o Kf=some r)
  (hn:∀ κ' ln' z' tv s' v h' n' tr',Ke c s.n κ ln κ' ln'→s.n≤s'.n→Rel P κ' ln' z' c s' env h' n'→TVR P κ' ln' z' s'.n tv v→Kf tv s'=some r→GH κ0 b1 b2 hs h'→(∀ id∈b1,id<s'.n∧κ' id = κ0 id)→RecsOk P rd κ0 b1 b2 hs tr'→next ⟨putE env o.dst v,h',n'⟩ tr') :
  stepD P wc rd o j env h n tr next:=by
 have rdr:∀ {κ':Nat→Option Nat} {ln':Nat→Nat} {z':AH} {s':TS sem} {tv:TV sem} {v:AV},Ke c s.n κ ln κ' ln'→s.n≤s'.n→isW wc j o=false→(∀ K:K3,K v h n→aop P env h n o K)→Rel P κ' ln' z' c s' env h n→TVR P κ' ln' z' s'.n tv v→Kf tv s'=some r→(∀ id∈b1,id<s'.n∧κ' id = κ0 id)→
   (wants rd j=true→∀ h1 n1 (K':K3),GH κ0 b1 b2 hs h1→K' v h1 n1→aop P env h1 n1 o K')→stepD P wc rd o j env h n tr next:=fun ke kn hw hv R' hv' hk' hκ' htr=>by
  refine ksK _ hw hv (hn _ _ _ _ _ _ _ _ _ ke kn R' hv' hk' hG hκ' ?_)
  split
  ·rename_i hwj
   intro a ha
   rcases List.mem_cons.1 ha with rfl | ha
   ·exact ⟨hG,hG,fun _=>htr hwj⟩
   ·exact hT a ha
  ·exact hT
 have full:∀ h1,GH κ0 b1 b2 hs h1→∀ q B,rsH κ h b2 q=some B→h1 q=some B:=fun h1 hG1=>hG.full hG1 (fun id hi=>(hκ id (sub id hi)).2) (fun id hi=>live id (sub id hi))
 have shape:∀ h1,GH κ0 b1 b2 hs h1→shp (rsH κ h b1) h1:=fun h1 hG1=>hG.shape hG1 (fun id hi=>(hκ id hi).2) live
 unfold stepX at hk
 split at hk
 ·
  rename_i hw
  split at hk
  ·rename_i hc
   simp only [Bool.and_eq_true,Bool.not_eq_true'] at hc
   obtain ⟨⟨⟨hc0,hc1⟩,hc2⟩,hc3⟩:=hc
   obtain ⟨tv,s',v,h',n',κ',ln',z',g1,g2,g3,g4,g6,g7,_⟩:=kbn hΔ R o hk
   have ha:=g1 (fun a b c=>a=v∧b=h'∧c=n') ⟨rfl,rfl,rfl⟩
   obtain ⟨f1,f2⟩:=kns hw hc0 ha
   have keep:∀ id q B,id∈b1→κ0 id=some q→hs q=some B→(id∈b2∨khR o=false)→h' q=h q:=fun id q B hi hq hB hor=>by
    have hlive:=List.all_eq_true.1 hc2 id hi
    obtain ⟨B1,hB1⟩:=Option.isSome_iff_exists.1 hlive
    have hkq:κ id=some q:=by rw [(hκ id hi).2]; exact hq
    refine f1 q (by have:=R.bnd id B1 q hB1 hkq; omega) fun x hx hav=>?_
    unfold okW at hc1
    rw [hx] at hc1
    simp only at hc1
    split at hc1
    ·rename_i i hti
     simp only [Bool.and_eq_true,Bool.not_eq_true',Bool.or_eq_true] at hc1
     obtain ⟨⟨⟨l1,l2⟩,l3⟩,l4⟩:=hc1
     obtain ⟨B2,hB2⟩:=Option.isSome_iff_exists.1 l1
     have hki:Ow κ ln i B2 q:=by
      rcases krw (R.ev x) hti q hav with h | ⟨h,h'⟩
      ·exact .inl h
      ·rw [h,hB2] at l4
       exact .inr ⟨by simpa using l4,h'⟩
     have:=R.owI hB1 hB2 (.inl hkq) hki
     subst this
     rcases hor with hor | hor
     ·rw [List.contains_iff_mem.2 hor] at l2; cases l2
     ·rw [hor] at l3
      rcases l3 with l3 | l3
      ·cases l3
      ·rw [List.contains_iff_mem.2 hi] at l3; cases l3
    ·generalize hte:tev c s x=tv at hc1
     have hxv:=R.ev x
     rw [hte] at hxv
     generalize ev env x=av at hxv hav
     cases hxv <;> first | (simp only [isSc,Bool.false_eq_true] at hc1; done) | cases hav
   have hG':GH κ0 b1 b2 hs h':=by
    refine ⟨fun id q B hi hq hB=>?_,fun id q B hi hq hB=>?_⟩
    ·obtain ⟨B1,e1,e2⟩:=hG.1 id q B hi hq hB
     by_cases hst:khR o=true
     ·obtain ⟨B2,e3,e4⟩:=f2 hst q B1 e1
      exact ⟨B2,e3,ABlk.shp_trans e2 e4⟩
     ·rw [keep id q B hi hq hB (.inr (by simpa using hst))]
      exact ⟨B1,e1,e2⟩
    ·rw [keep id q B (sub id hi) hq hB (.inl hi)]
     exact hG.2 id q B hi hq hB
   refine ksn v h' n' hw ha (hn _ _ _ _ _ _ _ _ _ g7 g6 g3 g4 g2 hG' (fun id hi=>⟨by have:=(hκ id hi).1; omega,by rw [(g7 id (hκ id hi).1).1]; exact (hκ id hi).2⟩) ?_)
   split
   ·intro a ha
    rcases List.mem_cons.1 ha with rfl | ha
    ·exact ⟨hG,hG',fun e=>by rw [hc3] at e; cases e⟩
    ·exact hT a ha
   ·exact hT
  ·exact kaa hk
 ·rename_i hw
  rw [Bool.not_eq_true] at hw
  obtain ⟨dst,op,ty,pos,after,g⟩:=o
  simp only at hk
  split at hk
  ·obtain ⟨tv,v,k1,k2,k3⟩:=knu (dst:=dst) (ty:=ty) (pos:=pos) (after:=after) (g:=g) R hk
   exact rdr .refl (Nat.le_refl _) hw (k1 h n) R k3 k2 hκ fun _ h1 n1 K' _ hK=>k1 h1 n1 K' hK
  ·rename_i f args ts
   split at hk
   ·rename_i hwj
    split at hk
    ·rename_i hse
     unfold seen at hse
     rw [Bool.and_eq_true,Bool.and_eq_true,Bool.not_eq_true'] at hse
     have R2:=R.rst hse.1.1 hse.1.2 hse.2
     obtain ⟨tv,v,k1,k2,k3⟩:=kdE (dst:=dst) (ty:=ty) (pos:=pos) (after:=after) (g:=g) (l:=⟨.value f,args,ts⟩) hΔ R2 rfl hk
     exact rdr .refl (Nat.le_refl _) hw (fun K hK=>k1 h n K (fun q B hq=>(kdT hq).2) hK) R k3 k2 hκ fun _ h1 n1 K' hG1 hK=>k1 h1 n1 K' (full h1 hG1) hK
    ·exact kaa hk
   ·rename_i hwj
    obtain ⟨tv,v,k1,k2,k3⟩:=kdE (dst:=dst) (ty:=ty) (pos:=pos) (after:=after) (g:=g) (l:=⟨.value f,args,ts⟩) hΔ R rfl hk
    exact rdr .refl (Nat.le_refl _) hw (fun K hK=>k1 h n K (fun q B hq=>hq) hK) R k3 k2 hκ fun e=>absurd e hwj
  ·split at hk
   ·rename_i hc0
    obtain ⟨tv,s',v,h',n',κ',ln',z',g1,g2,g3,g4,g6,g7,_⟩:=kbn hΔ R _ hk
    obtain ⟨v2,⟨rfl,rfl,rfl⟩,k2⟩:=kpk hc0 (g1 (fun a b c=>a=v∧b=h'∧c=n') ⟨rfl,rfl,rfl⟩)
    exact rdr g7 g6 hw (fun K hK=>k2 _ _ K hK) g3 g4 g2 (fun id hi=>⟨by have:=(hκ id hi).1; omega,by rw [(g7 id (hκ id hi).1).1]; exact (hκ id hi).2⟩) fun _ h1 n1 K' _ hK=>k2 h1 n1 K' hK
   ·split at hk
    ·rename_i hc1
     split at hk
     ·rename_i hwj
      split at hk
      ·rename_i hse
       unfold seen at hse
       rw [Bool.and_eq_true,Bool.and_eq_true,Bool.not_eq_true'] at hse
       have R2:=R.rst hse.1.1 hse.1.2 hse.2
       obtain ⟨tv,s',v,h',n',κ',ln',z',g1,g2,g3,g4,g6,g7,g8⟩:=kbn hΔ R2 _ hk
       obtain ⟨rfl,rfl,rfl,rfl,rfl,rfl⟩:=g8 (kdI (.inl hc1))
       have tr1:∀ h1 n1 (K':K3),GH κ0 b1 b2 hs h1→K' v h1 n1→aop P env h1 n1 ⟨dst,op,ty,pos,after,g⟩ K':=fun h1 n1 K' hG1 hK=>
        kjj hc1 (shape h1 hG1) (fun v' hv'=>by obtain ⟨rfl,_,_⟩:=hv'; exact hK) (g1 (fun a b c=>a=v∧True∧True) ⟨rfl,trivial,trivial⟩)
       exact rdr .refl (Nat.le_refl _) hw (fun K hK=>tr1 _ _ K hG hK) R g4 g2 hκ fun _=>tr1
      ·exact kaa hk
     ·rename_i hwj
      obtain ⟨tv,s',v,h',n',κ',ln',z',g1,g2,g3,g4,g6,g7,g8⟩:=kbn hΔ R _ hk
      obtain ⟨rfl,rfl,rfl,rfl,rfl,rfl⟩:=g8 (kdI (.inl hc1))
      exact rdr .refl (Nat.le_refl _) hw g1 R g4 g2 hκ fun e=>absurd e hwj
    ·split at hk
     ·rename_i hc2
      split at hk
      ·rename_i hwj
       split at hk
       ·rename_i hse
        unfold seen at hse
        rw [Bool.and_eq_true,Bool.and_eq_true,Bool.not_eq_true'] at hse
        have R2:=R.rst hse.1.1 hse.1.2 hse.2
        obtain ⟨tv,s',v,h',n',κ',ln',z',g1,g2,g3,g4,g6,g7,g8⟩:=kbn hΔ R2 _ hk
        obtain ⟨rfl,rfl,rfl,rfl,rfl,rfl⟩:=g8 (kdI (.inr hc2))
        have tr1:∀ h1 n1 (K':K3),(∀ q B,rsH κ' h b2 q=some B→h1 q=some B)→K' v h1 n1→aop P env h1 n1 ⟨dst,op,ty,pos,after,g⟩ K':=fun h1 n1 K' hh hK=>
         kkR hc2 hh (fun v' hv'=>by obtain ⟨rfl,_,_⟩:=hv'; exact hK) (g1 (fun a b c=>a=v∧True∧True) ⟨rfl,trivial,trivial⟩)
        exact rdr .refl (Nat.le_refl _) hw (fun K hK=>tr1 _ _ K (fun q B hq=>(kdT hq).2) hK) R g4 g2 hκ fun _ h1 n1 K' hG1 hK=>tr1 h1 n1 K' (full h1 hG1) hK
       ·exact kaa hk
      ·rename_i hwj
       obtain ⟨tv,s',v,h',n',κ',ln',z',g1,g2,g3,g4,g6,g7,g8⟩:=kbn hΔ R _ hk
       obtain ⟨rfl,rfl,rfl,rfl,rfl,rfl⟩:=g8 (kdI (.inr hc2))
       exact rdr .refl (Nat.le_refl _) hw g1 R g4 g2 hκ fun e=>absurd e hwj
     ·exact kaa hk
end
end Go.Abs
namespace Go.Abs
open Go Go.RowKit
section
variable {P:Program} {κ0:Nat→Option Nat} {c:Cx sem} {hs:AH}
variable {ρ:Ty} {r:ρ.den} {wc:List Nat} {rd:List (Nat×Nat)} {b1 b2:List Nat}
theorem kdv {Δ:List (FuncId×Ctr)} (hΔ:Goods P Δ) {ds:List (Option Tmp)} (hds:okD c ds=true) (live:∀ id∈b1,∀ q,κ0 id=some q→∃ B,hs q=some B) (sub:∀ id∈b2,id∈b1) {Kf:TS sem→sem.Ans ρ} {K:St→Prop}
  {N0:Nat} {κ1:Nat→Option Nat} {ln1:Nat→Nat} (hK:∀ κ ln z s' env' h' n',Ke c N0 κ1 ln1 κ ln→Rel P κ ln z c s' env' h' n'→Kf s'=some r→K ⟨env',h',n'⟩) :
  ∀ (l:List Oper) (i:Nat) {κ:Nat→Option Nat} {ln:Nat→Nat} {z:AH} {s:TS sem} {env:Env} {h:AH} {n:Nat} {tr:List Rec},Ke c N0 κ1 ln1 κ ln→N0≤s.n→(∀ o∈l,o.dst∈ds)→Rel P κ ln z c s env h n→GH κ0 b1 b2 hs h→(∀ id∈b1,id<s.n∧κ id = κ0 id)→RecsOk P rd κ0 b1 b2 hs tr→
   xopsD P c Δ wc ds rd b1 b2 l i s Kf=some r→aopsD P ds wc rd l i ⟨env,h,n⟩ tr K
 | [],i,κ,ln,z,s,env,h,n,tr,ke,kn,_,R,hG,hκ,hT,hk=>⟨hT.recheck rd fun x hx=>hx,hK _ _ _ _ _ _ _ ke R hk⟩
 | o::l,i,κ,ln,z,s,env,h,n,tr,ke,kn,hl,R,hG,hκ,hT,hk=>by
  have hl':∀ o∈l,o.dst∈ds:=fun o ho=>hl o (List.mem_cons_of_mem _ ho)
  have hod:=kmQ hds (hl o (List.mem_cons_self ..))
  have one:∀ {κ:Nat→Option Nat} {ln:Nat→Nat} {z:AH} {s:TS sem} {env:Env},Ke c N0 κ1 ln1 κ ln→N0≤s.n→Rel P κ ln z c s env h n→(∀ id∈b1,id<s.n∧κ id = κ0 id)→(stepX P c Δ wc rd b1 b2 i s o fun v s'=>xopsD P c Δ wc ds rd b1 b2 l (i+1) (putT s' o.dst v) Kf)=some r→
    stepD P wc rd o i env h n tr fun s t=>aopsD P ds wc rd l (i+1) s t K:=fun ke kn R hκ hk=>by
   refine kqa hΔ live sub R hG hκ hT hk fun κ' ln' z' tv s' v h' n' tr' ke' kn' R' hv hk' hG' hκ' hT'=>?_
   exact kdv hΔ hds live sub hK l (i+1) (ke.trans ke' kn) (by rw [kbr]; omega) hl' (R'.putT hv o.dst hod) hG' (fun id hi=>by
    have:=hκ' id hi
    cases o.dst <;> exact this) hT' hk'
  have nx:∀ {κ:Nat→Option Nat} {s:TS sem} {d:Option Tmp} {v:TV sem},(∀ id∈b1,id<s.n∧κ id = κ0 id)→∀ id∈b1,id<(putT s d v).n∧κ id = κ0 id:=fun {κ s d v} hκ id hi=>by cases d <;> exact hκ id hi
  simp only [xopsD] at hk
  simp only [aopsD]
  cases hg:o.guard with
  | none=>
   rw [hg] at hk
   exact one ke kn R hκ hk
  | some jw=>
   obtain ⟨j,want⟩:=jw
   rw [hg] at hk
   simp only at hk ⊢
   cases hs:kaB ds j with
   | none=>rw [hs] at hk; exact kaa hk
   | some d=>
    rw [hs] at hk
    simp only at hk ⊢
    have hde:=kkY hds hs
    have hv:=R.env d
    generalize htl:tlk c s d=tv at hv hk
    generalize hlk:lk env d=a at hv
    cases hv <;> first | exact kaa hk | skip
    ·
     exact kdv hΔ hds live sub hK l (i+1) ke (by rw [kbr]; exact kn) hl' (R.putT .ud o.dst hod) hG (nx hκ) hT hk
    ·
     rename_i t x hd hs2
     cases t <;> first | exact kaa hk | skip
     obtain rfl:=hs2.sc_inv
     have k1:∀ w:Bool,x=w→Rel P κ ln z c { s with env:=(d,.kb w)::s.env } ((d,.sc (.bool w))::env) h n:=fun w hw=>R.know (.kb w) hde
     dsimp only at hk
     cases want
     ·dsimp only at hk
      rcases kbz hk with ⟨hb,hk⟩ | ⟨hb,hk⟩
      ·refine ⟨fun e=>?_,fun _=>?_⟩
       ·exact absurd (hb.symm.trans e) (by decide)
       ·exact kdv hΔ hds live sub hK l (i+1) ke (by rw [kbr]; exact kn) hl' ((k1 true hb).putT .ud o.dst hod) hG (nx hκ) hT hk
      ·refine ⟨fun _=>?_,fun e=>?_⟩
       ·exact one ke (by exact kn) (k1 false hb) hκ hk
       ·exact absurd (hb.symm.trans e) (by decide)
     ·dsimp only at hk
      rcases kbz hk with ⟨hb,hk⟩ | ⟨hb,hk⟩
      ·refine ⟨fun _=>?_,fun e=>?_⟩
       ·exact one ke (by exact kn) (k1 true hb) hκ hk
       ·exact absurd (hb.symm.trans e) (by decide)
      ·refine ⟨fun e=>?_,fun _=>?_⟩
       ·exact absurd (hb.symm.trans e) (by decide)
       ·exact kdv hΔ hds live sub hK l (i+1) ke (by rw [kbr]; exact kn) hl' ((k1 false hb).putT .ud o.dst hod) hG (nx hκ) hT hk
    ·
     rename_i b
     dsimp only at hk
     have ag:Rel P κ ln z c s ((d,.sc (.bool b))::env) h n:=R.again fun x=>by
      show (if x=d then _ else lk env x)=_
      split
      ·rename_i e; rw [e,hlk]
      ·rfl
     split at hk
     ·rename_i hbw
      have hbw:=eq_of_beq hbw
      subst hbw
      refine ⟨fun _=>one ke (by exact kn) ag hκ hk,fun e=>?_⟩
      cases b <;> cases e
     ·rename_i hbw
      refine ⟨fun e=>by rw [e] at hbw; simp at hbw,fun e=>?_⟩
      rw [←e]
      exact kdv hΔ hds live sub hK l (i+1) ke (by rw [kbr]; exact kn) hl' (ag.putT .ud o.dst hod) hG (nx hκ) hT hk
theorem BR.at {κ:Nat→Option Nat} {ln:Nat→Nat} {z h:AH} {N id q:Nat} {B:TB sem} (hb:BR P κ ln z h N id B) (hk:κ id=some q):∃ AB,h q=some AB:=by
 cases hb <;> simp_all
variable {N:Nat} {D:DX} {O:Nat→Prop} {Q:Exit→St→Prop}
theorem ksp {Δ:List (FuncId×Ctr)} (hΔ:Goods P Δ) {κ:Nat→Option Nat} {ln:Nat→Nat} {z:AH} {s:TS sem} {env:Env} {h:AH} {n:Nat} {Gd:St→Prop} {a:Option La} {ops:List Oper} (hds:okD c (ops.map (·.dst))=true) (R:Rel P κ ln z c s env h n) {Kf:TS sem→sem.Ans ρ}
  (hK:∀ κ' ln' z' s' env' h' n',Ke c s.n κ ln κ' ln'→Rel P κ' ln' z' c s' env' h' n'→Kf s'=some r→Gd ⟨env',h',n'⟩) (hk:drawX P c Δ a ops s Kf=some r) :
  ∃ E V A W H M,LF P ops ⟨env,h,n⟩ E V A W H M∧Gd ⟨E ops.length,H ops.length,M ops.length⟩∧P.follows .mixedOrders=true∧kbO ops=true:=by
 unfold drawX at hk
 split at hk
 ·rename_i hc
  simp only [Bool.and_eq_true] at hc
  obtain ⟨⟨⟨⟨hm,hd⟩,hw⟩,hb⟩,hb1⟩:=hc
  have live1:∀ i∈bL1 a,∃ B,thp c s i=some B:=fun i hi=>Option.isSome_iff_exists.1 (List.all_eq_true.1 hb1 i hi)
  have hL:aopsD P (ops.map (·.dst)) (wcOf ops) (rdOf (wcOf ops) ops) ops 0 ⟨env,h,n⟩ [] Gd:=
   kdv (κ0:=κ) (hs:=h) hΔ hds (fun i hi q hq=>by obtain ⟨B,hB⟩:=live1 i hi; exact (R.blk i B hB).at hq) (fun i hi=>by have:=List.all_eq_true.1 hb i hi; simpa using this) hK ops 0 .refl (Nat.le_refl _) (fun o ho=>List.mem_map.2 ⟨o,ho,rfl⟩) R GH.refl
    (fun i hi=>by obtain ⟨B,hB⟩:=live1 i hi; exact ⟨R.lt i B hB,rfl⟩) (fun a ha=>by cases ha) hk
  obtain ⟨E,V,A,H,M,L,hk⟩:=ksP hd hw hL
  exact ⟨E,V,A,_,H,M,L,hk,hm,hd⟩
 ·exact kaa hk
end
end Go.Abs
namespace Go.Abs
open Go Go.RowKit
theorem kmq {α:Type} {f:α→α→Bool}:∀ (x y:List α),x.length=y.length→(∀ a∈x,∀ b,f a b=true→a=b)→((x.zip y).all fun p=>f p.1 p.2)=true→x=y
 | [],[],_,_,_=>rfl
 | [],_::_,h,_,_=>by simp at h
 | _::_,[],h,_,_=>by simp at h
 | a::x,b::y,h,hf,ha=>by
  simp only [List.zip_cons_cons,List.all_cons,Bool.and_eq_true] at ha
  rw [hf a (by simp) b ha.1,kmq x y (by simpa using h) (fun a h=>hf a (List.mem_cons_of_mem _ h)) ha.2]
theorem Ty.beq_eq:∀ (t:Ty) (x y:t.den),t.beq x y=true→x=y
 | .i _,x,y,h=>by simpa [Ty.beq] using h
 | .b,x,y,h=>by simpa [Ty.beq] using h
 | .s,x,y,h=>by simpa [Ty.beq] using h
 | .un,_,_,_=>rfl
 | .nt,_,_,h=>by simp [Ty.beq] at h
 | .pr u v,x,y,h=>by
  simp only [Ty.beq,Bool.and_eq_true] at h
  exact Prod.ext (Ty.beq_eq u _ _ h.1) (Ty.beq_eq v _ _ h.2)
 | .w a,x,y,h=>Ty.beq_eq a x y h
 | .pt a,x,y,h=>Ty.beq_eq a x y h
 | .sl a,x,y,h=>by
  simp only [Ty.beq,Bool.and_eq_true,decide_eq_true_eq] at h
  exact kmq (α:=a.den) x y h.1 (fun p _ q=>Ty.beq_eq a p q) h.2
 | .op a,x,y,h=>by
  simp only [Ty.beq] at h
  cases x with
  | none=>cases y with
   | none=>rfl
   | some y=>cases h
  | some x=>cases y with
   | none=>cases h
   | some y=>rw [Ty.beq_eq a x y h]
 | .ar n a,x,y,h=>by
  simp only [Ty.beq] at h
  have:=kmq (α:=a.den) x.l y.l (by rw [x.h,y.h]) (fun p _ q=>Ty.beq_eq a p q) h
  cases x; cases y; simp only at this; subst this; rfl
 | .sm _ _,_,_,h=>by simp [Ty.beq] at h
 | .fn _ _ _,_,_,h=>by simp [Ty.beq] at h
theorem ksG {t:Ty} {xs ys ys2:List t.den} {e:t.den} (h:gpre t (some xs) ys e=some ys2):xs[ys.length]?=some e∧ys2=ys++[e]:=by
 unfold gpre at h
 simp only at h
 split at h
 ·rename_i x hx
  split at h
  ·rename_i hb
   cases h
   rw [Ty.beq_eq t x e hb] at hx
   exact ⟨hx,rfl⟩
  ·cases h
 ·cases h
section
variable {P:Program} {κ:Nat→Option Nat} {ln:Nat→Nat} {z:AH} {c:Cx sem} {s:TS sem} {env:Env} {h:AH} {n N:Nat} {ρ:Ty}
mutual
theorem klV:∀ {v:TV sem} {a:AV},TVR P κ ln ahN N v a→v.solid=true→Free a
 | _,_,.c t x a hd hs,_=>hs.freeN
 | _,_,.kb b,_=>.sc _
 | _,_,.sc v h1,_=>.sc _
 | _,_,.fq t x o a hd hs,_=>hs.freeN
 | _,_,.cv n x y F a hc,_=>by
  obtain ⟨g,as,rfl,hf,_⟩:=hc
  exact (kgs g as).2 hf
 | _,_,.fn g vs as hs,hp=>(kgs g as).2 (kfM hs (by simpa [TV.solid] using hp))
 | _,_,.tp vs as hs,hp=>(kqq as).2 (kfM hs (by simpa [TV.solid] using hp))
 | _,_,.ag vs as hs h1,hp=>(kjU as).2 (kfM hs (by simpa [TV.solid] using hp))
 | _,_,.un _,hp | _,_,.ud,hp | _,_,.gs _ _,hp | _,_,.yl ..,hp | _,_,.kp ..,hp | _,_,.ptr ..,hp | _,_,.adr ..,hp | _,_,.aa ..,hp | _,_,.mw0 ..,hp | _,_,.mw ..,hp | _,_,.ms0 ..,hp | _,_,.ms ..,hp | _,_,.mp ..,hp | _,_,.fw0 ..,hp | _,_,.fw ..,hp | _,_,.fr0 ..,hp | _,_,.fr ..,hp | _,_,.fo ..,hp | _,_,.fa ..,hp=>by simp [TV.solid] at hp
theorem kfM:∀ {vs:List (TV sem)} {as:List AV},TVRs P κ ln ahN N vs as→TV.solidL vs=true→FreeL as
 | _,_,.nil,_=>FreeL.nil
 | _,_,.cons v a vs as hv hs,hp=>by
  simp only [TV.solidL,Bool.and_eq_true] at hp
  exact FreeL.cons (klV hv hp.1) (kfM hs hp.2)
end
def stays (v:TV sem):Bool:=match v with | .ud=>true | .yl _=>true | v=>v.solid
theorem klk {v:TV sem} (hp:v.pure=true) (hs:¬ stays v=true):v = .un:=by
 cases v with
 | un=>rfl
 | ud=>exact absurd rfl hs
 | yl id=>exact absurd rfl hs
 | _=>exact absurd hp hs
theorem kqV {v:TV sem} {a:AV} (hv:TVR P κ ln ahN N v a) (hs:stays v=true):Free a:=by
 unfold stays at hs
 split at hs
 ·cases hv; exact .ud
 ·cases hv; exact .sc _
 ·exact klV hv hs
theorem kfL {α β:Type} (f:α→β):∀ (l:List (Nat×α)) (x:Nat),alk (l.map fun p=>(p.1,f p.2)) x=(alk l x).map f
 | [],x=>rfl
 | (k,v)::l,x=>by
  simp only [List.map_cons,alk]
  split
  ·rfl
  ·exact kfL f l x
theorem kof:∀ (env:Env) (x:Nat),(env.map (·.1)).contains x=false→lk env x = .un
 | [],x,_=>rfl
 | (k,v)::env,x,h=>by
  simp only [List.map_cons,List.contains_cons,Bool.or_eq_false_iff] at h
  simp only [lk]
  rw [if_neg (by simpa using h.1)]
  exact kof env x h.2
theorem kpv {G:IterG} {Δ:List (FuncId×Ctr)} (hI:∀ nm ts F,(alk Δ IM).bind (fun C=>C.its.head?)=some ⟨nm,[.nt],ts,F⟩→∃ xs,F (0:Nat)=some xs∧G.xs=xs.map (avsL ts)) (W:CxWf c) (R:Rel P κ ln z c s env h n) (hκ:κ 0=some G.l)
  {y:Oper} (hdst:∀ d,y.dst=some d→alk c.e0 d=none) {ds:List (Option Tmp)} {l2:List Oper} {Qn:St→Prop} {Kf:TS sem→Option Unit} {K:TS sem→sem.Ans ρ} {w:ρ.den} (hk:klE (A:=sem) c Δ s y Kf K=some w)
  (hT:∀ s2 env2,Rel P κ ln ahN c s2 env2 ah0 n→s2.n=s.n→K s2=some w→aops P ds l2 ⟨env2,ah0,n⟩ Qn)
  (hF:∀ s2 env2 w0,Rel P κ ln ahN c s2 env2 ah0 n→s2.n=s.n→Kf s2=some w0→aops P ds l2 ⟨env2,ah0,n⟩ Qn):kgD P G ds y l2 Qn ⟨env,h,n⟩∧y.guard=none:=by
 unfold klE at hk
 split at hk
 rotate_left
 ·exact kaa hk
 rename_i cl nm ts F hop hIM
 obtain ⟨xs,hF0,hGx⟩:=hI nm ts F hIM
 split at hk
 rotate_left
 ·exact kaa hk
 rename_i f hcl
 split at hk
 rotate_left
 ·exact kaa hk
 rename_i id t ys hf hgs
 split at hk
 rotate_left
 ·exact kaa hk
 rename_i ys' l ids hys hl
 split at hk
 ·exact kaa hk
 rename_i hcond
 simp only [Bool.or_eq_true,Bool.not_eq_true',not_or,Bool.not_eq_true,Bool.not_eq_false',bne_iff_ne,ne_eq,Decidable.not_not,beq_iff_eq,Bool.not_eq_false] at hcond
 obtain ⟨⟨⟨⟨⟨⟨hid,hdy⟩,hg⟩,he0⟩,hts⟩,hgd⟩,hds⟩:=hcond
 subst hid
 split at hk
 rotate_left
 ·exact kaa hk
 rename_i e he
 obtain ⟨ys2,hpre,hk⟩:=Option.bind_eq_some_iff.1 hk
 obtain ⟨w0,hw0,hk⟩:=Option.bind_eq_some_iff.1 hk
 rw [hF0] at hpre
 obtain ⟨hx,rfl⟩:=ksG hpre
 obtain ⟨ee,rfl⟩:=kai hys
 cases ee
 have hz0:z=ahN:=R.dy (by simpa using hdy)
 subst hz0
 have hgn:y.guard=none:=by simpa using hgd
 have hfe:=R.ev f
 rw [hf] at hfe
 have hfe2:ev env f = .sc (.func (.yield G.l) #[] #[]):=by
  generalize ev env f=a at hfe
  cases hfe with
  | yl _ q hN hq=>rw [hκ] at hq; cases hq; rfl
 have htG:tlk c s GS = .gs (tup ts) ys:=by unfold tlk; rw [hgs]
 have hGe:=R.env GS
 rw [htG] at hGe
 have hGe2:lk env GS = .gs (ys.map (tup ts).enc):=by
  generalize lk env GS=a at hGe
  cases hGe; rfl
 have hargs:TVRs P κ ln ahN s.n (cl.args.toList.map (tev c s)) (cl.args.toList.map (ev env)):=by
  generalize cl.args.toList=xs
  induction xs with
  | nil=>exact .nil
  | cons x xs ih=>exact .cons _ _ _ _ (R.ev x) ih
 obtain ⟨as',g1,g2,_⟩:=kep R _ _ _ hargs hl
 have has:as'=avsL ts e:=kjh hts (kfS ts l as' e g1 he)
 subst has
 let g:Nat→AV:=fun k=>if stays (tlk c s k)=true then lk env k else .un
 let E:Env:=(env.map (·.1)).map fun k=>(k,g k)
 have hE:∀ x,lk E x=if stays (tlk c s x)=true then lk env x else .un:=fun x=>by
  show lk ((env.map (·.1)).map fun k=>(k,g k)) x=_
  rw [klx]
  split
  ·rfl
  ·rename_i hc
   rw [kof env x (by simpa using hc)]; simp
 have rel:∀ (b:Bool) (gt:TV sem) (ga:AV),TVR P κ ln ahN s.n gt ga→Rel P κ ln ahN c (yTS s y.dst b gt) (putE ((GS,ga)::E) y.dst (.sc (.bool b))) ah0 n:=fun b gt ga hga=>by
  have hth:∀ id,thp c (yTS s y.dst b gt) id=none:=fun id=>by
   unfold thp
   have:c.g=[]:=by simpa using hg
   rw [this]; rfl
  have hrest:∀ x,x≠GS→TVR P κ ln ahN s.n (match alk (yEnv s) x with | some v=>v | none=>(alk c.e0 x).getD .un) (lk E x):=fun x hx=>by
   have hal:alk (yEnv s) x=(alk s.env x).map fun v=>if v.pure then v else .un:=kfL (fun v:TV sem=>if v.pure then v else .un) s.env x
   rw [hal,hE]
   have hRx:=R.env x
   unfold tlk at hRx ⊢
   cases hsx:alk s.env x with
   | some v=>
    rw [hsx] at hRx
    simp only [Option.map_some]
    simp only at hRx
    by_cases hp:v.pure=true
    ·rw [if_pos hp]
     by_cases hst:stays v=true
     ·rw [if_pos hst]; exact hRx
     ·have:=klk hp hst
      subst this; exact .un _
    ·rw [if_neg hp]; exact .un _
   | none=>
    rw [hsx] at hRx
    simp only [Option.map_none]
    simp only at hRx
    cases hcx:alk c.e0 x with
    | none=>simp only [Option.getD_none]; exact .un _
    | some v=>
     rw [hcx] at hRx
     simp only [Option.getD_some] at hRx ⊢
     have hm:=List.all_eq_true.1 he0 _ (kar hcx)
     by_cases hst:stays v=true
     ·rw [if_pos hst]; exact hRx
     ·have:v = .un:=by
       simp only [Bool.or_eq_true,Bool.and_eq_true] at hm
       rcases hm with hp | ⟨_,hp⟩
       ·exact klk hp hst
       ·cases v <;> first | (exact absurd rfl hst) | (simp at hp)
      subst this; exact .un _
  refine ⟨fun x=>?_,fun id B hB=>(by rw [hth] at hB; cases hB),fun id B hB=>(by rw [hth] at hB; cases hB),fun i j B B' q hi=>(by rw [hth] at hi; cases hi),fun q B hq=>(by cases hq),fun id B q hB=>(by rw [hth] at hB; cases hB),fun id B q hB=>(by rw [hth] at hB; cases hB),fun q hq=>rfl,fun x v hx=>?_,fun id b hb=>(by cases hb),fun _=>rfl,fun q k T es hq=>(by cases hq),fun id B hB=>(by rw [hth] at hB; cases hB)⟩
  ·show TVR P κ ln ahN s.n _ _
   cases hd:y.dst with
   | none=>
    have h1:tlk c (yTS s none b gt) x=if x=GS then gt else (match alk (yEnv s) x with | some v=>v | none=>(alk c.e0 x).getD .un):=by
     unfold tlk yTS
     simp only [List.nil_append,alk]
     by_cases hx:x=GS
     ·rw [if_pos hx,if_pos hx]
     ·rw [if_neg hx,if_neg hx]; cases alk (yEnv s) x <;> rfl
    rw [h1]
    show TVR P κ ln ahN s.n _ (lk ((GS,ga)::E) x)
    simp only [lk]
    by_cases hx:x=GS
    ·rw [if_pos hx,if_pos hx]; exact hga
    ·rw [if_neg hx,if_neg hx]; exact hrest x hx
   | some d=>
    have h1:tlk c (yTS s (some d) b gt) x=if x=d then .kb b else if x=GS then gt else (match alk (yEnv s) x with | some v=>v | none=>(alk c.e0 x).getD .un):=by
     unfold tlk yTS
     simp only [List.cons_append,List.nil_append,alk]
     by_cases hxd:x=d
     ·rw [if_pos hxd,if_pos hxd]
     ·rw [if_neg hxd,if_neg hxd]
      by_cases hx:x=GS
      ·rw [if_pos hx,if_pos hx]
      ·rw [if_neg hx,if_neg hx]; cases alk (yEnv s) x <;> rfl
    rw [h1]
    show TVR P κ ln ahN s.n _ (lk ((d,.sc (.bool b))::(GS,ga)::E) x)
    simp only [lk]
    by_cases hxd:x=d
    ·rw [if_pos hxd,if_pos hxd]; exact .kb b
    ·rw [if_neg hxd,if_neg hxd]
     by_cases hx:x=GS
     ·rw [if_pos hx,if_pos hx]; exact hga
     ·rw [if_neg hx,if_neg hx]; exact hrest x hx
  ·have hkey:y.dst=some x∨x=GS∨∃ v,alk s.env x=some v:=by
    unfold yTS at hx
    simp only at hx
    cases hd:y.dst with
    | none=>
     rw [hd] at hx
     simp only [List.nil_append,alk] at hx
     split at hx
     ·rename_i e; exact .inr (.inl e)
     ·rw [show alk (yEnv s) x=(alk s.env x).map fun v=>if v.pure then v else .un from kfL (fun v:TV sem=>if v.pure then v else .un) s.env x] at hx
      obtain ⟨v',hv',_⟩:=Option.map_eq_some_iff.1 hx
      exact .inr (.inr ⟨v',hv'⟩)
    | some d=>
     rw [hd] at hx
     simp only [List.cons_append,List.nil_append,alk] at hx
     split at hx
     ·rename_i e; exact .inl (by rw [e])
     ·split at hx
      ·rename_i e; exact .inr (.inl e)
      ·rw [show alk (yEnv s) x=(alk s.env x).map fun v=>if v.pure then v else .un from kfL (fun v:TV sem=>if v.pure then v else .un) s.env x] at hx
       obtain ⟨v',hv',_⟩:=Option.map_eq_some_iff.1 hx
       exact .inr (.inr ⟨v',hv'⟩)
   rcases hkey with hd | rfl | ⟨v',hv'⟩
   ·exact hdst x hd
   ·exact R.e0 _ _ hgs
   ·exact R.e0 x v' hv'
 refine ⟨⟨cl,f,ys.map (tup ts).enc,avsL ts e,hz (ows κ ln c s) h ahN ids,E,(tup ts).enc e,hop,hcl,hfe2,hGe2,?_,kcY R.zin,g2,fun x hx=>?_,?_,?_⟩,hgn⟩
 ·rw [hGx,List.getElem?_map,List.length_map,hx]; rfl
 ·rw [hE]
  by_cases hst:stays (tlk c s x)=true
  ·rw [if_pos hst]; exact .inr ⟨rfl,kqV (R.env x) hst⟩
  ·rw [if_neg hst]; exact .inl rfl
 ·exact hT _ _ (rel true _ _ (by rw [show ys.map (tup ts).enc++[(tup ts).enc e]=(ys++[e]).map (tup ts).enc by simp]; exact .gs _ _)) rfl hk
 ·exact hF _ _ w0 (rel false _ _ .ud) rfl hw0
end
end Go.Abs
namespace Go.Abs
open Go Go.RowKit
section
variable {P:Program} {κ κ':Nat→Option Nat} {ln ln':Nat→Nat} {z z':AH} {c:Cx sem} {s:TS sem} {env:Env} {h h':AH} {n n':Nat}
variable {ρ:Ty} {r:ρ.den} {o:Oper} {W:Nat→Bool} {anc:Nat→List Nat} {late:Nat→Bool} {j:Nat} {next:St→List Pn→Prop}
def DomF (κ:Nat→Option Nat) (N:Nat) (F:List Nat) (hp:AH):Prop:=∀ q B,hp q=some B→∃ id∈F,id<N∧κ id=some q
structure PnOk (κ:Nat→Option Nat) (N:Nat) (p:Pn) (t:Nat×Nat×List Nat):Prop where
 j:p.j=t.1
 k0:t.2.1=0→∀ h1,p.ok h1
 k1:t.2.1=1→∃ hp,(∀ h1,p.ok h1↔shp hp h1)∧DomF κ N t.2.2 hp
 k2:t.2.1=2→∃ hp:AH,(∀ h1:AH,p.ok h1↔∀ q B,hp q=some B→h1 q=some B)∧DomF κ N t.2.2 hp
def PdR (κ:Nat→Option Nat) (N:Nat) (ps:List Pn) (pd:List (Nat×Nat×List Nat)):Prop:=∀ p∈ps,∃ t∈pd,PnOk κ N p t
theorem DomF.mono {N N':Nat} {F:List Nat} {hp:AH} (h:DomF κ N F hp) (hκ:∀ id,id<N→κ' id = κ id) (hN:N≤N'):DomF κ' N' F hp:=fun q B hq=>by
 obtain ⟨id,h1,h2,h3⟩:=h q B hq
 exact ⟨id,h1,by omega,by rw [hκ id h2]; exact h3⟩
theorem PdR.mono {N N':Nat} {ps:List Pn} {pd:List (Nat×Nat×List Nat)} (h:PdR κ N ps pd) (hκ:∀ id,id<N→κ' id = κ id) (hN:N≤N'):PdR κ' N' ps pd:=fun p hp=>by
 obtain ⟨t,ht,g⟩:=h p hp
 exact ⟨t,ht,g.j,g.k0,fun e=>(g.k1 e).imp fun hp g=>⟨g.1,g.2.mono hκ hN⟩,fun e=>(g.k2 e).imp fun hp g=>⟨g.1,g.2.mono hκ hN⟩⟩
theorem PdR.cons {N:Nat} {ps:List Pn} {pd:List (Nat×Nat×List Nat)} (h:PdR κ N ps pd) {p:Pn} {t:Nat×Nat×List Nat} (g:PnOk κ N p t):PdR κ N (p::ps) (t::pd):=fun q hq=>by
 rcases List.mem_cons.1 hq with rfl | hq
 ·exact ⟨t,by simp,g⟩
 ·obtain ⟨t,ht,g⟩:=h q hq
  exact ⟨t,List.mem_cons_of_mem _ ht,g⟩
theorem kqr (R:Rel P κ ln z c s env h n) {ps:List Pn} {pd:List (Nat×Nat×List Nat)} (hp:PdR κ s.n ps pd) {al:List Nat} {st:Bool} {T:List Nat} (hk:pdOk c s al st T pd=true)
  (hf:∀ q,q<n→h' q=h q∨∃ id∈T,(∃ B,thp c s id=some B)∧q∈ows κ ln c s id) (hst:st=true→shp h h'):∀ p∈ps,p.j∈al∨(p.ok h→p.ok h'):=by
 intro p hpm
 obtain ⟨t,ht,g⟩:=hp p hpm
 have hc:=List.all_eq_true.1 hk t ht
 simp only [Bool.or_eq_true,beq_iff_eq,Bool.and_eq_true,List.all_eq_true,List.contains_iff_mem,Bool.not_eq_true'] at hc
 rcases hc with (hc | hc) | ⟨hkd,hF⟩
 ·exact .inl (by rw [g.j]; exact hc)
 ·exact .inr fun _=>g.k0 hc h'
 ·right
  intro hok
  have same:∀ id q B,id∈t.2.2→T.contains id=false→κ id=some q→h q=some B→h' q=h q:=fun id q B hid hT hκ hq=>by
   have hqn:q<n:=by
    rcases Nat.lt_or_ge q n with hlt | hge
    ·exact hlt
    ·rw [R.hn q hge] at hq; cases hq
   rcases hf q hqn with e | ⟨id',h1,⟨B',h2⟩,h3⟩
   ·exact e
   ·obtain ⟨B1,hB1⟩:=Option.isSome_iff_exists.1 (hF id hid).1
    have e:=R.owI hB1 h2 (.inl hκ) (kct h2 h3)
    subst e
    rw [List.contains_iff_mem.2 h1] at hT; cases hT
  rcases hkd with hkd | hkd
  ·obtain ⟨hp,g1,g2⟩:=g.k1 hkd
   rw [g1] at hok ⊢
   intro q B hq
   obtain ⟨B',e1,e2⟩:=hok q B hq
   obtain ⟨id,d1,d2,d3⟩:=g2 q B hq
   rcases (hF id d1).2 with hT | hT
   ·exact ⟨B',by rw [same id q B' d1 hT d3 e1]; exact e1,e2⟩
   ·obtain ⟨B2,e3,e4⟩:=hst hT.1 q B' e1
    exact ⟨B2,e3,ABlk.shp_trans e2 e4⟩
  ·obtain ⟨hp,g1,g2⟩:=g.k2 hkd
   rw [g1] at hok ⊢
   intro q B hq
   obtain ⟨id,d1,d2,d3⟩:=g2 q B hq
   rcases (hF id d1).2 with hT | hT
   ·rw [same id q B d1 hT d3 (hok q B hq)]; exact hok q B hq
   ·rw [hkd] at hT; exact absurd hT.2 (by decide)
theorem knR {Δ:List (FuncId×Ctr)} (hΔ:Goods P Δ) {wc:List Nat} {Kf:TV sem→TS sem→List (Nat×Nat×List Nat)→sem.Ans ρ} {ps:List Pn} {pd:List (Nat×Nat×List Nat)}
  (R:Rel P κ ln z c s env h n) (hpd:PdR κ s.n ps pd) (hW:W j=isW wc j o) (hk:kih P c Δ W anc late j s o pd Kf=some r)
  (hn:∀ κ' ln' z' tv s' v h' n' ps' pd',Ke c s.n κ ln κ' ln'→s.n≤s'.n→Rel P κ' ln' z' c s' env h' n'→TVR P κ' ln' z' s'.n tv v→Kf tv s' pd'=some r→PdR κ' s'.n ps' pd'→next ⟨putE env o.dst v,h',n'⟩ ps') :
  stepT P W anc o j env h n ps next:=by
 unfold kih at hk
 unfold stepT
 cases hw:W j with
 | true=>
  rw [hw] at hk hW
  rw [if_pos rfl]
  obtain ⟨d,op,ty,pos,after,g⟩:=o
  simp only at hk
  split at hk
  ·
   rename_i f args ts
   split at hk
   ·rename_i M as hu
    unfold useM at hu
    simp only at hu
    split at hu
    ·rename_i gg caps hfe
     split at hu
     ·rename_i C hC
      obtain ⟨M',hM,he⟩:=Option.map_eq_some_iff.1 hu
      cases he
      have hG:=(hΔ.at hC).2.2.1 M (kho hM)
      have hargs:TVRs P κ ln z s.n (args.toList.map (tev c s)) (args.toList.map (ev env)):=by
       generalize args.toList=xs
       induction xs with
       | nil=>exact .nil
       | cons x xs ih=>exact .cons _ _ _ _ (R.ev x) ih
      have hff:=R.ev f
      rw [hfe] at hff
      obtain ⟨as',hfa,hcaps⟩:=hff.fn_inv
      refine keX (f:=f) rfl hfa rfl (kgJ hΔ hG.1 hG.2 R (hargs.append hcaps) hk fun tv s' v h' n' κ' ln' h1 h2 h3 h4 h5 h6=>?_)
      split at h1
      ·rename_i hch
       exact ⟨kqr R hpd hch h6 (fun e=>by cases e),hn _ _ _ _ _ _ _ _ _ _ h2 h3 h4 h5 h1 (hpd.mono (fun id hi=>(h2 id hi).1) h3)⟩
      ·exact kaa h1
     ·cases hu
    ·cases hu
   ·split at hk
    ·exact kmA hk
    ·obtain ⟨tv,v,k1,k2,k3⟩:=kdE (dst:=d) (ty:=ty) (pos:=pos) (after:=after) (g:=g) (l:=⟨.value f,args,ts⟩) hΔ R rfl hk
     exact k1 h n _ (fun q B hq=>hq) ⟨fun p _=>.inr id,hn _ _ _ _ _ _ _ _ _ _ .refl (Nat.le_refl _) R k3 k2 hpd⟩
  ·split at hk
   ·exact kaa hk
   ·rename_i hcl
    split at hk
    ·rename_i T hT
     split at hk
     ·rename_i hch
      obtain ⟨tv,s',v,h',n',κ',ln',z',g1,g2,g3,g4,g6,g7,_⟩:=kbn hΔ R _ hk
      have ha:=g1 (fun a b c=>a=v∧b=h'∧c=n') ⟨rfl,rfl,rfl⟩
      obtain ⟨f1,f2⟩:=kns hW.symm hcl ha
      refine g1 _ ⟨kqr R hpd hch (fun q hq=>?_) f2,hn _ _ _ _ _ _ _ _ _ _ g7 g6 g3 g4 g2 (hpd.mono (fun id hi=>(g7 id hi).1) g6)⟩
      unfold tgtT at hT
      split at hT
      ·rename_i hno
       exact .inl (f1 q (by omega) fun x hx=>by rw [hno] at hx; cases hx)
      ·rename_i x hx
       by_cases hav:avId (ev env x)=some q
       ·split at hT
        ·rename_i i hti
         split at hT
         ·rename_i hc
          cases hT
          simp only [Bool.and_eq_true,Bool.or_eq_true,Bool.not_eq_true'] at hc
          obtain ⟨B,hB⟩:=Option.isSome_iff_exists.1 hc.1
          refine .inr ⟨i,by simp,⟨B,hB⟩,?_⟩
          rcases krw (R.ev x) hti q hav with h1 | ⟨h1,h2⟩
          ·exact ows_k h1
          ·rw [h1,hB] at hc
           exact ows_r hB (by simpa using hc.2) h2
         ·cases hT
        ·split at hT
         ·rename_i hsc
          have hxv:=R.ev x
          generalize tev c s x=tv at hxv hsc
          generalize ev env x=av at hxv hav
          cases hxv <;> first | (simp only [isSc,Bool.false_eq_true] at hsc; done) | cases hav
         ·cases hT
       ·exact .inl (f1 q (by omega) fun x' hx'=>by rw [hx] at hx'; cases hx'; exact hav)
     ·exact kaa hk
    ·exact kaa hk
 | false=>
  rw [hw] at hk hW
  rw [if_neg (by decide)]
  have rdr:∀ {κ':Nat→Option Nat} {ln':Nat→Nat} {z':AH} {s':TS sem} {tv:TV sem} {v:AV} (ok:AH→Prop) (kind:Nat) (F:List Nat),ok h→(∀ h1 n1 (K':K3),ok h1→K' v h1 n1→aop P env h1 n1 o K')→Ke c s.n κ ln κ' ln'→s.n≤s'.n→Rel P κ' ln' z' c s' env h n→TVR P κ' ln' z' s'.n tv v→
    Kf tv s' ((j,kind,F)::pd)=some r→(kind=0→∀ h1,ok h1)→(kind=1→∃ hp,(∀ h1,ok h1↔shp hp h1)∧DomF κ s.n F hp)→(kind=2→∃ hp:AH,(∀ h1:AH,ok h1↔∀ q B,hp q=some B→h1 q=some B)∧DomF κ s.n F hp)→
    ∃ p:Pn,p.j=j∧p.o=o∧p.env=env∧p.ok h∧p.fact P∧next ⟨putE env o.dst p.v,h,n⟩ (p::ps):=fun {κ' ln' z' s' tv v} ok kind F h1 h2 h3 h4 h5 h6 h7 h8 h9 h10=>
   ⟨⟨j,o,env,v,ok⟩,rfl,rfl,rfl,h1,h2,hn _ _ _ _ _ _ _ _ _ _ h3 h4 h5 h6 h7 ((hpd.mono (fun id hi=>(h3 id hi).1) h4).cons ⟨rfl,h8,fun e=>(h9 e).imp fun hp g=>⟨g.1,g.2.mono (fun id hi=>(h3 id hi).1) h4⟩,fun e=>(h10 e).imp fun hp g=>⟨g.1,g.2.mono (fun id hi=>(h3 id hi).1) h4⟩⟩)⟩
  have dom:DomF κ s.n (footX c s o) (rsH κ h (footX c s o)):=fun q B hq=>by
   obtain ⟨⟨id,h1,h2⟩,_⟩:=kdT hq
   have h3:=(List.mem_filter.1 (show id∈(_:List Nat).filter _ from h1)).2
   obtain ⟨B1,hB1⟩:=Option.isSome_iff_exists.1 h3
   exact ⟨id,h1,R.lt id B1 hB1,h2⟩
  obtain ⟨d,op,ty,pos,after,g⟩:=o
  simp only at hk
  split at hk
  ·obtain ⟨tv,v,k1,k2,k3⟩:=knu (dst:=d) (ty:=ty) (pos:=pos) (after:=after) (g:=g) R hk
   exact rdr (fun _=>True) 0 [] trivial (fun h1 n1 K' _ hK=>k1 h1 n1 K' hK) .refl (Nat.le_refl _) R k3 k2 (fun _ _=>trivial) (fun e=>by cases e) (fun e=>by cases e)
  ·rename_i f args ts
   split at hk
   ·split at hk
    ·rename_i hse
     unfold seen at hse
     rw [Bool.and_eq_true,Bool.and_eq_true,Bool.not_eq_true'] at hse
     have R2:=R.rst hse.1.1 hse.1.2 hse.2
     obtain ⟨tv,v,k1,k2,k3⟩:=kdE (dst:=d) (ty:=ty) (pos:=pos) (after:=after) (g:=g) (l:=⟨.value f,args,ts⟩) hΔ R2 rfl hk
     exact rdr (fun h1=>∀ q B,rsH κ h (footX c s _) q=some B→h1 q=some B) 2 _ (fun q B hq=>(kdT hq).2) (fun h1 n1 K' hh hK=>k1 h1 n1 K' hh hK) .refl (Nat.le_refl _) R k3 k2 (fun e=>by cases e) (fun e=>by cases e) (fun _=>⟨_,fun _=>Iff.rfl,dom⟩)
    ·exact kaa hk
   ·obtain ⟨tv,v,k1,k2,k3⟩:=kdE (dst:=d) (ty:=ty) (pos:=pos) (after:=after) (g:=g) (l:=⟨.value f,args,ts⟩) hΔ R rfl hk
    exact rdr (fun h1=>∀ q B,h q=some B→h1 q=some B) 3 [] (fun q B hq=>hq) (fun h1 n1 K' hh hK=>k1 h1 n1 K' hh hK) .refl (Nat.le_refl _) R k3 k2 (fun e=>by cases e) (fun e=>by cases e) (fun e=>by cases e)
  ·split at hk
   ·rename_i hc0
    obtain ⟨tv,s',v,h',n',κ',ln',z',g1,g2,g3,g4,g6,g7,_⟩:=kbn hΔ R _ hk
    obtain ⟨v2,⟨rfl,rfl,rfl⟩,k2⟩:=kpk hc0 (g1 (fun a b c=>a=v∧b=h'∧c=n') ⟨rfl,rfl,rfl⟩)
    exact rdr (fun _=>True) 0 [] trivial (fun h1 n1 K' _ hK=>k2 h1 n1 K' hK) g7 g6 g3 g4 g2 (fun _ _=>trivial) (fun e=>by cases e) (fun e=>by cases e)
   ·split at hk
    ·rename_i hc1
     split at hk
     ·split at hk
      ·rename_i hse
       unfold seen at hse
       rw [Bool.and_eq_true,Bool.and_eq_true,Bool.not_eq_true'] at hse
       have R2:=R.rst hse.1.1 hse.1.2 hse.2
       obtain ⟨tv,s',v,h',n',κ',ln',z',g1,g2,g3,g4,g6,g7,g8⟩:=kbn hΔ R2 _ hk
       obtain ⟨rfl,rfl,rfl,rfl,rfl,rfl⟩:=g8 (kdI (.inl hc1))
       exact rdr (fun h1=>shp (rsH κ' h (footX c s _)) h1) 1 _ (fun q B hq=>⟨B,(kdT hq).2,B.shp_refl⟩) (fun h1 n1 K' hh hK=>kjj hc1 hh (fun v' hv'=>by obtain ⟨rfl,_,_⟩:=hv'; exact hK) (g1 (fun a b c=>a=v∧True∧True) ⟨rfl,trivial,trivial⟩)) .refl (Nat.le_refl _) R g4 g2 (fun e=>by cases e) (fun _=>⟨_,fun _=>Iff.rfl,dom⟩) (fun e=>by cases e)
      ·exact kaa hk
     ·obtain ⟨tv,s',v,h',n',κ',ln',z',g1,g2,g3,g4,g6,g7,g8⟩:=kbn hΔ R _ hk
      obtain ⟨rfl,rfl,rfl,rfl,rfl,rfl⟩:=g8 (kdI (.inl hc1))
      exact rdr (fun h1=>shp h' h1) 3 [] (fun q B hq=>⟨B,hq,B.shp_refl⟩) (fun h1 n1 K' hh hK=>kjj hc1 hh (fun v' hv'=>by obtain ⟨rfl,_,_⟩:=hv'; exact hK) (g1 (fun a b c=>a=v∧True∧True) ⟨rfl,trivial,trivial⟩)) .refl (Nat.le_refl _) R g4 g2 (fun e=>by cases e) (fun e=>by cases e) (fun e=>by cases e)
    ·split at hk
     ·rename_i hc2
      split at hk
      ·split at hk
       ·rename_i hse
        unfold seen at hse
        rw [Bool.and_eq_true,Bool.and_eq_true,Bool.not_eq_true'] at hse
        have R2:=R.rst hse.1.1 hse.1.2 hse.2
        obtain ⟨tv,s',v,h',n',κ',ln',z',g1,g2,g3,g4,g6,g7,g8⟩:=kbn hΔ R2 _ hk
        obtain ⟨rfl,rfl,rfl,rfl,rfl,rfl⟩:=g8 (kdI (.inr hc2))
        exact rdr (fun h1=>∀ q B,rsH κ' h (footX c s _) q=some B→h1 q=some B) 2 _ (fun q B hq=>(kdT hq).2) (fun h1 n1 K' hh hK=>kkR hc2 hh (fun v' hv'=>by obtain ⟨rfl,_,_⟩:=hv'; exact hK) (g1 (fun a b c=>a=v∧True∧True) ⟨rfl,trivial,trivial⟩)) .refl (Nat.le_refl _) R g4 g2 (fun e=>by cases e) (fun e=>by cases e) (fun _=>⟨_,fun _=>Iff.rfl,dom⟩)
       ·exact kaa hk
      ·obtain ⟨tv,s',v,h',n',κ',ln',z',g1,g2,g3,g4,g6,g7,g8⟩:=kbn hΔ R _ hk
       obtain ⟨rfl,rfl,rfl,rfl,rfl,rfl⟩:=g8 (kdI (.inr hc2))
       exact rdr (fun h1=>∀ q B,h' q=some B→h1 q=some B) 3 [] (fun q B hq=>hq) (fun h1 n1 K' hh hK=>kkR hc2 hh (fun v' hv'=>by obtain ⟨rfl,_,_⟩:=hv'; exact hK) (g1 (fun a b c=>a=v∧True∧True) ⟨rfl,trivial,trivial⟩)) .refl (Nat.le_refl _) R g4 g2 (fun e=>by cases e) (fun e=>by cases e) (fun e=>by cases e)
     ·exact kaa hk
theorem kdu {Δ:List (FuncId×Ctr)} (hΔ:Goods P Δ) {wc:List Nat} {ds:List (Option Tmp)} (hds:okD c ds=true) {Kf:TS sem→sem.Ans ρ} {K:St→Prop}
  {N0:Nat} {κ1:Nat→Option Nat} {ln1:Nat→Nat} (hK:∀ κ ln z s' env' h' n',Ke c N0 κ1 ln1 κ ln→Rel P κ ln z c s' env' h' n'→Kf s'=some r→K ⟨env',h',n'⟩) :
  ∀ (l:List Oper) (i:Nat) {κ:Nat→Option Nat} {ln:Nat→Nat} {z:AH} {s:TS sem} {env:Env} {h:AH} {n:Nat} {ps:List Pn} {pd:List (Nat×Nat×List Nat)},Ke c N0 κ1 ln1 κ ln→N0≤s.n→(∀ o∈l,o.dst∈ds)→(∀ q o,l[q]?=some o→W (i+q)=isW wc (i+q) o)→Rel P κ ln z c s env h n→PdR κ s.n ps pd→
   xopsT P c Δ W anc late ds l i s pd Kf=some r→treeD P ds W anc l i ⟨env,h,n⟩ ps K
 | [],i,κ,ln,z,s,env,h,n,ps,pd,ke,kn,_,_,R,hp,hk=>hK _ _ _ _ _ _ _ ke R hk
 | o::l,i,κ,ln,z,s,env,h,n,ps,pd,ke,kn,hl,hW,R,hp,hk=>by
  have hl':∀ o∈l,o.dst∈ds:=fun o ho=>hl o (List.mem_cons_of_mem _ ho)
  have hW':∀ q o,l[q]?=some o→W (i+1+q)=isW wc (i+1+q) o:=fun q o hq=>by have:=hW (q+1) o (by simpa using hq); rwa [show i+(q+1)=i+1+q by omega] at this
  have hW0:W i=isW wc i o:=hW 0 o rfl
  have hod:=kmQ hds (hl o (List.mem_cons_self ..))
  have one:∀ {κ:Nat→Option Nat} {ln:Nat→Nat} {z:AH} {s:TS sem} {env:Env},Ke c N0 κ1 ln1 κ ln→N0≤s.n→Rel P κ ln z c s env h n→PdR κ s.n ps pd→(kih P c Δ W anc late i s o pd fun v s' pd=>xopsT P c Δ W anc late ds l (i+1) (putT s' o.dst v) pd Kf)=some r→
    stepT P W anc o i env h n ps fun s t=>treeD P ds W anc l (i+1) s t K:=fun ke kn R hp hk=>by
   refine knR hΔ R hp hW0 hk fun κ' ln' z' tv s' v h' n' ps' pd' ke' kn' R' hv hk' hp'=>?_
   exact kdu hΔ hds hK l (i+1) (ke.trans ke' kn) (by rw [kbr]; omega) hl' hW' (R'.putT hv o.dst hod) (by rw [kbr]; exact hp') hk'
  simp only [xopsT] at hk
  simp only [treeD]
  cases hg:o.guard with
  | none=>
   rw [hg] at hk
   exact one ke kn R hp hk
  | some jw=>
   obtain ⟨j,want⟩:=jw
   rw [hg] at hk
   simp only at hk ⊢
   cases hs:kaB ds j with
   | none=>rw [hs] at hk; exact kaa hk
   | some d=>
    rw [hs] at hk
    simp only at hk ⊢
    have hde:=kkY hds hs
    have hv:=R.env d
    generalize htl:tlk c s d=tv at hv hk
    generalize hlk:lk env d=a at hv
    cases hv <;> first | exact kaa hk | skip
    ·
     exact kdu hΔ hds hK l (i+1) ke (by rw [kbr]; exact kn) hl' hW' (R.putT .ud o.dst hod) (by rw [kbr]; exact hp) hk
    ·
     rename_i t x hd hs2
     cases t <;> first | exact kaa hk | skip
     obtain rfl:=hs2.sc_inv
     have k1:∀ w:Bool,x=w→Rel P κ ln z c { s with env:=(d,.kb w)::s.env } ((d,.sc (.bool w))::env) h n:=fun w hw=>R.know (.kb w) hde
     dsimp only at hk
     cases want
     ·dsimp only at hk
      rcases kbz hk with ⟨hb,hk⟩ | ⟨hb,hk⟩
      ·refine ⟨fun e=>?_,fun _=>?_⟩
       ·exact absurd (hb.symm.trans e) (by decide)
       ·exact kdu hΔ hds hK l (i+1) ke (by rw [kbr]; exact kn) hl' hW' ((k1 true hb).putT .ud o.dst hod) (by rw [kbr]; exact hp) hk
      ·refine ⟨fun _=>?_,fun e=>?_⟩
       ·exact one ke (by exact kn) (k1 false hb) hp hk
       ·exact absurd (hb.symm.trans e) (by decide)
     ·dsimp only at hk
      rcases kbz hk with ⟨hb,hk⟩ | ⟨hb,hk⟩
      ·refine ⟨fun _=>?_,fun e=>?_⟩
       ·exact one ke (by exact kn) (k1 true hb) hp hk
       ·exact absurd (hb.symm.trans e) (by decide)
      ·refine ⟨fun e=>?_,fun _=>?_⟩
       ·exact absurd (hb.symm.trans e) (by decide)
       ·exact kdu hΔ hds hK l (i+1) ke (by rw [kbr]; exact kn) hl' hW' ((k1 false hb).putT .ud o.dst hod) (by rw [kbr]; exact hp) hk
    ·
     rename_i b
     dsimp only at hk
     have ag:Rel P κ ln z c s ((d,.sc (.bool b))::env) h n:=R.again fun x=>by
      show (if x=d then _ else lk env x)=_
      split
      ·rename_i e; rw [e,hlk]
      ·rfl
     split at hk
     ·rename_i hbw
      have hbw:=eq_of_beq hbw
      subst hbw
      refine ⟨fun _=>one ke (by exact kn) ag hp hk,fun e=>?_⟩
      cases b <;> cases e
     ·rename_i hbw
      refine ⟨fun e=>by rw [e] at hbw; simp at hbw,fun e=>?_⟩
      rw [←e]
      exact kdu hΔ hds hK l (i+1) ke (by rw [kbr]; exact kn) hl' hW' (ag.putT .ud o.dst hod) (by rw [kbr]; exact hp) hk
variable {N:Nat} {D:DX} {O:Nat→Prop} {Q:Exit→St→Prop}
theorem kqm {l:List Oper} {wc:List Nat} (h:koO l wc (ancOf l)=true) {w j:Nat} {o:Oper} (ho:l[w]?=some o) (hw:isW wc w o=true) (hwj:w<j) (hj:j<l.length):Anc l w j:=by
 simp only [koO,List.all_eq_true,Prod.forall,Bool.or_eq_true,Bool.not_eq_true',decide_eq_false_iff_not] at h
 have mem:∀ {α:Type} {m:List α} {j:Nat} {x:α},m[j]?=some x→(x,j)∈m.zipIdx:=fun h=>List.mem_zipIdx_iff_getElem?.2 (by simpa using h)
 rcases h o w (mem ho) with h | h
 ·rw [hw] at h; cases h
 ·rcases h _ j (mem (List.getElem?_eq_getElem hj)) with h | h
  ·exact absurd hwj h
  ·exact kcz (by simpa [List.contains_iff_mem] using h)
theorem kqb {Δ:List (FuncId×Ctr)} (hΔ:Goods P Δ) {l:List Oper} (R:Rel P κ ln z c s env h n) {Kf:TS sem→sem.Ans ρ}
  (hK:∀ κ' ln' z' s' env' h' n',Ke c s.n κ ln κ' ln'→Rel P κ' ln' z' c s' env' h' n'→Kf s'=some r→Q .normal ⟨env',h',n'⟩) (hk:drawT P c Δ N l s Kf=some r):SatA P N D O l Q ⟨env,h,n⟩:=by
 unfold drawT at hk
 simp only at hk
 split at hk
 ·rename_i hc
  simp only [Bool.and_eq_true] at hc
  obtain ⟨⟨⟨h1,h2⟩,h3⟩,h4⟩:=hc
  refine SatA.of_tree h1 h4 (W:=fun j=>match l[j]? with | some o=>isW (wcGo Δ l 0 (ownT s) []) j o | none=>false) (anc:=fun j=>(ancOf l).getD j []) (fun i j hi=>kcz hi) (fun w j hwj hj hw=>?_) ?_
  ·split at hw
   ·rename_i o ho
    exact kqm h2 ho hw hwj hj
   ·cases hw
  ·exact kdu hΔ h3 (wc:=wcGo Δ l 0 (ownT s) []) hK l 0 .refl (Nat.le_refl _) (fun o ho=>List.mem_map.2 ⟨o,ho,rfl⟩) (fun q o hq=>by simp only [Nat.zero_add,hq]) R (fun p hp=>by cases hp) hk
 ·exact kaa hk
theorem kmT {f:List (Nat×Nat)→sem.Ans ρ}:∀ {l:List (List (Nat×Nat))},bthL (A:=sem) f l=some r→∀ x∈l,f x=some r
 | [],h=>kaa h
 | [x],h=>by
  intro y hy
  simp only [List.mem_singleton] at hy
  subst hy
  exact h
 | x::y::l,h=>by
  obtain ⟨h1,h2⟩:=knr (show bthO _ _ _=some r from h)
  intro q hq
  rcases List.mem_cons.1 hq with rfl | hq
  ·exact h1
  ·exact kmT h2 q hq
theorem kqf {Δ:List (FuncId×Ctr)} (hΔ:Goods P Δ) {id:Nat} {cs:List Code} {l:List Oper} (R:Rel P κ ln z c s env h n) {Kf:TS sem→sem.Ans ρ}
  (hK:∀ κ' ln' z' s' env' h' n',Ke c s.n κ ln κ' ln'→Rel P κ' ln' z' c s' env' h' n'→Kf s'=some r→SatL P N D O cs Q ⟨env',h',n'⟩) (hk:drawV P c Δ N l s Kf=some r):SatL P N D O (.region id l.toArray true::cs) Q ⟨env,h,n⟩:=by
 unfold drawV at hk
 split at hk
 ·rename_i hc
  rw [Bool.and_eq_true] at hc
  refine Sat.drawV (Q:=thenQ (SatL P N D O cs Q) Q) (id:=id) hc.1 hc.2 (conf:=confX Δ (ownT { s with dy:=false }) l) (f:=3) fun ex hex=>?_
  have:=kmT hk ex hex
  simp only at this
  split at this
  ·rename_i hp
   exact ⟨_,hp,kqb (Q:=thenQ (SatL P N D O cs Q) Q) hΔ R hK this⟩
  ·exact kaa this
 ·exact kaa hk
end
end Go.Abs
namespace Go.Abs
open Go Go.RowKit
section
variable {P:Program} {D:DX} {O:Nat→Prop}
structure Jd where
 e:List (Nat×TV sem)
 κ:Nat→Option Nat
 ln:Nat→Nat
structure RJ (J:Jd) (P:Program) (κ:Nat→Option Nat) (ln:Nat→Nat) (z:AH) (c:Cx sem) (s:TS sem) (env:Env) (h:AH) (n:Nat):Prop where
 R:Rel P κ ln z c s env h n
 j:∀ x v id,alk J.e x=some v→v.has id=true→κ id=J.κ id∧ln id=J.ln id
 w:∀ x v,alk J.e x=some v→alk c.e0 x=some v
section
variable {κ:Nat→Option Nat} {ln:Nat→Nat} {z:AH} {c:Cx sem} {s:TS sem} {env:Env} {h:AH} {n:Nat} {J:Jd}
theorem RJ.ke (R:RJ J P κ ln z c s env h n) (W:CxWf c) {κ':Nat→Option Nat} {ln':Nat→Nat} {z':AH} {s':TS sem} {env':Env} {h':AH} {n':Nat} (ke:Ke c s.n κ ln κ' ln') (R':Rel P κ' ln' z' c s' env' h' n'):RJ J P κ' ln' z' c s' env' h' n':=
 ⟨R',fun x v id hv hi=>by
  obtain ⟨e1,e2⟩:=ke id (R.R.has_lt W (kcG (R.w x v hv) hi))
  obtain ⟨e3,e4⟩:=R.j x v id hv hi
  exact ⟨e1.trans e3,(e2 (kcG (R.w x v hv) hi)).trans e4⟩,R.w⟩
theorem RJ.into (R:RJ J P κ ln z c s env h n) {l:La} (hk:okLa l c s=true):RJ J P κ ln z (inCx l c s) ⟨s.env.filter (fun x=>!l.keep.contains x.1),s.hp.filter (fun x=>!l.gids.contains x.1),s.n,s.dy⟩ env h n:=
 ⟨R.R.into hk,R.j,fun x v hv=>by
  rw [kft,if_neg]
  ·exact R.w x v hv
  ·intro hc
   have h1:=(kcB hk).1 x (by simpa using hc)
   rw [R.w x v hv] at h1; cases h1⟩
theorem kfP {l:La} {s1:TS sem} (hk:okLa l c s=true) (hc:∀ id,(inCx l c s).has id=true→id<s.n) (R:RJ J P κ ln z (inCx l c s) s1 env h n) {x:l.head.ty.den} (hp:pack (inCx l c s) s.n l.head s1=some x) :
  ∃ κ2 ln2 z2,RJ J P κ2 ln2 z2 (inCx l c s) (kad l.head s.n x) env h n:=by
 obtain ⟨κ2,ln2,z2,R2,e⟩:=ksx hk hc R.R hp
 exact ⟨κ2,ln2,z2,R2,fun x v id hv hi=>⟨(e id (kcG (R.w x v hv) hi)).1.trans (R.j x v id hv hi).1,(e id (kcG (R.w x v hv) hi)).2.trans (R.j x v id hv hi).2⟩,R.w⟩
theorem kgP {l:La} {s1:TS sem} {κ0:Nat→Option Nat} {ln0:Nat→Nat} {z0:AH} {env0:Env} {h0:AH} {n0:Nat} (R0:RJ J P κ0 ln0 z0 c s env0 h0 n0) (hk:okLa l c s=true) (hc:∀ id,(inCx l c s).has id=true→id<l.n) (R:RJ J P κ ln z (inCx l c s) s1 env h n) {x:l.out.ty.den} (hp:pack (inCx l c s) l.n l.out s1=some x) :
  ∃ κ2 ln2 z2,RJ J P κ2 ln2 z2 c (outTS l c s x) env h n:=by
 obtain ⟨κ2,ln2,z2,R2,e⟩:=kqJ R0.R hk hc R.R hp
 exact ⟨κ2,ln2,z2,R2,fun x v id hv hi=>⟨(e id (kcG (R.w x v hv) hi)).1.trans (R.j x v id hv hi).1,(e id (kcG (R.w x v hv) hi)).2.trans (R.j x v id hv hi).2⟩,R0.w⟩
end
structure KonOk (D:DX) (J:Jd) (P:Program) {r ρ:Ty} (Q:Exit→St→Prop) (RetQ:r.den→St→Prop) (c:Cx sem) (K:Kon sem r ρ) (rr:ρ.den):Prop where
 nrm:∀ κ ln z s env h n,RJ J P κ ln z c s env h n→K.nrm s=some rr→Q .normal ⟨env,h,n⟩
 ext:∀ id κ ln z s env h n,RJ J P κ ln z c s env h n→K.ext id s=some rr→Q (.exit id) ⟨env,h,n⟩
 retv:∀ v st,RetQ v st→K.retv v=some rr→Q .ret st
 stop:D.it.isSome=true→∀ st,lk st.env GS = .ud→Q .ret st
def YOk (P:Program) (D:DX) (Δ:List (FuncId×Ctr)) (J:Jd):Prop:=
 ((alk Δ IM).isNone=true→D.it=none)∧((alk Δ IM).isSome=true→∃ G,D.it=some G∧khT P G∧
  (∀ nm ts F,(alk Δ IM).bind (fun C=>C.its.head?)=some ⟨nm,[.nt],ts,F⟩→∃ xs,F (0:Nat)=some xs∧G.xs=xs.map (avsL ts))∧alk J.e 0=some (.yl 0)∧J.κ 0=some G.l)
theorem klh {α β:Type} {F:α→Option (α⊕β)} {k:Nat} {x:α} {e:β} (h:itN F k x=some e):∃ k',k=k'+1∧((∃ y,F x=some (.inl y)∧itN F k' y=some e)∨F x=some (.inr e)):=by
 cases k with
 | zero=>simp [itN] at h
 | succ k=>
  refine ⟨k,rfl,?_⟩
  simp only [itN] at h
  split at h
  ·cases h
  ·rename_i y hy; exact .inl ⟨y,hy,h⟩
  ·rename_i w hw; cases h; exact .inr hw
theorem kro {α β:Type} {F:α→Option (α⊕β)} {x:α} {e:β} (h:iter F x=some e):∃ G,G=F∧iter G x=some e:=⟨F,rfl,h⟩
theorem ksR {α:Type} (l:List α):lenI l=(l.length:Int):=rfl
theorem kpB:∀ (ts:List Ty) (x:(tup ts).den),(unT sem ts x).length=ts.length
 | [],_=>rfl
 | [t],_=>rfl
 | t::u::ts,x=>by simp [unT,kpB (u::ts)]
theorem kiM {α:Type}:∀ {l:List α} {k:Nat} {y:α},l[k]?=some y→l=l.take k++y::l.drop (k+1)∧(l.take k).length=k
 | [],k,y,h=>by simp at h
 | x::l,0,y,h=>by simp at h; subst h; exact ⟨rfl,rfl⟩
 | x::l,k+1,y,h=>by
  obtain ⟨h1,h2⟩:=kiM (l:=l) (k:=k) (y:=y) (by simpa using h)
  refine ⟨?_,by simp [h2]⟩
  simp only [List.take_succ_cons,List.drop_succ_cons,List.cons_append]
  rw [←h1]
theorem Rel.swap {κ:Nat→Option Nat} {ln:Nat→Nat} {z:AH} {c:Cx sem} {s:TS sem} {env env2:Env} {h:AH} {n:Nat} (R:Rel P κ ln z c s env h n) (he:∀ x,TVR P κ ln z s.n (tlk c s x) (lk env2 x)):Rel P κ ln z c s env2 h n:=
 ⟨he,R.blk,R.lt,R.inj,R.zin,R.zout,R.bnd,R.hn,R.e0,R.g,R.dy,R.zk,R.fam⟩
theorem koK:∀ (ts:List Ty) (x:(tup ts).den),(avsL ts x).length=ts.length
 | [],_=>rfl
 | [t],_=>rfl
 | t::u::ts,x=>by simp [avsL,koK (u::ts)]
theorem krP {κ:Nat→Option Nat} {ln:Nat→Nat} {z:AH} {N:Nat} {c:Cx sem} (hp:List (Nat×Option (TB sem))) (m:Nat) (dy:Bool):∀ (ps:List Tmp) (l:List ((t:Ty)×t.den)) (as:List AV) (E:List (Nat×TV sem)) (env:Env),l.length=ps.length→TVRs P κ ln z N (l.map fun y=>TV.c y.1 y.2) as→(∀ x,TVR P κ ln z N (tlk c ⟨E,hp,m,dy⟩ x) (lk env x))→
  ∀ x,TVR P κ ln z N (tlk c ⟨rndE (A:=sem) ps l E,hp,m,dy⟩ x) (lk (kgY ps as env) x)
 | [],l,as,E,env,hl,hs,he,x=>by simpa [rndE,kgY] using he x
 | p::ps,[],as,E,env,hl,hs,he,x=>by simp at hl
 | p::ps,y::l,_,E,env,hl,.cons _ a _ as hv hs,he,x=>by
  refine krP hp m dy ps l as ((p,.c y.1 y.2)::E) ((p,a)::env) (by simpa using hl) hs (fun t=>?_) x
  have h1:tlk (A:=sem) c ⟨(p,.c y.1 y.2)::E,hp,m,dy⟩ t=if t=p then .c y.1 y.2 else tlk c ⟨E,hp,m,dy⟩ t:=by
   unfold tlk
   simp only [alk]
   by_cases ht:t=p
   ·rw [if_pos ht,if_pos ht]
   ·rw [if_neg ht,if_neg ht]
  rw [h1]
  simp only [lk]
  by_cases ht:t=p
  ·rw [if_pos ht,if_pos ht]; exact hv
  ·rw [if_neg ht,if_neg ht]; exact he t
theorem ktv (ps:List Tmp):∀ (l:List ((t:Ty)×t.den)) (E:List (Nat×TV sem)) {x:Nat} {v:TV sem},alk (rndE (A:=sem) ps l E) x=some v→x∈ps∨alk E x=some v:=by
 induction ps with
 | nil=>intro l E x v h; exact .inr h
 | cons p ps ih=>
  intro l E x v h
  cases l with
  | nil=>exact .inr h
  | cons y l=>
   rcases ih l ((p,.c y.1 y.2)::E) h with h | h
   ·exact .inl (List.mem_cons_of_mem _ h)
   ·simp only [alk] at h
    split at h
    ·rename_i e; exact .inl (by simp [e])
    ·exact .inr h
theorem kiH {Δ:List (FuncId×Ctr)} (hΔ:Goods P Δ) {An:Nat→(A:Alg)→Cx A→TS A→Option La} {nt:Nat} :
  ∀ (fuel:Nat) {r:Ty} {res:Cx sem→TS sem→Option r.den} {J:Jd} {RetQ:r.den→St→Prop} (hres:∀ (c:Cx sem) κ ln s env h n v,CxWf c→RJ J P κ ln ahN c s env h n→res c s=some v→RetQ v ⟨env,h,n⟩) (hY:YOk P D Δ J) {ρ:Ty} (c:Cx sem) (cs:List Code) (K:Kon sem r ρ) (s:TS sem) (Q:Exit→St→Prop) (rr:ρ.den) (κ:Nat→Option Nat) (ln:Nat→Nat) (z:AH) (env:Env) (h:AH) (n:Nat),CxWf c→RJ J P κ ln z c s env h n→KonOk D J P Q RetQ c K rr→
   mach P Δ An nt fuel res c cs K s=some rr→SatL P nt D O cs Q ⟨env,h,n⟩
 | 0,r,res,J,RetQ,hres,hY,ρ,c,cs,K,s,Q,rr,κ,ln,z,env,h,n,W,R,ok,hk=>by simp only [mach] at hk; exact kaa hk
 | fuel+1,r,res,J,RetQ,hres,hY,ρ,c,cs,K,s,Q,rr,κ,ln,z,env,h,n,W,R,ok,hk=>by
  have IHg:=@kiH Δ hΔ An nt fuel
  have IH:=@IHg r res J RetQ hres hY
  cases cs with
  | nil=>simp only [mach] at hk; exact SatL.nil (ok.nrm _ _ _ _ _ _ _ R hk)
  | cons cd cs=>
   cases cd <;> simp only [mach] at hk
   case skip=>exact SatL.skip (IH _ _ _ _ _ _ _ _ _ _ _ _ W R ok hk)
   case seq a b=>exact SatL.seq (IH _ _ _ _ _ _ _ _ _ _ _ _ W R ok hk)
   case ret=>
    split at hk
    ·rename_i v hv
     refine SatL.wk R.R fun env h R1=>?_
     exact SatL.ret (ok.retv v _ (hres _ _ _ _ _ _ _ _ W ⟨R1,R.j,R.w⟩ (by exact hv)) hk)
    ·exact kaa hk
   case exit id=>exact SatL.exit (ok.ext id _ _ _ _ _ _ _ R hk)
   case region id ops draw=>
    refine SatL.wk R.R fun env h R1=>?_
    replace R:RJ J P κ ln ahN c { s with dy:=false } env h n:=⟨R1,R.j,R.w⟩
    clear R1
    have reg:∀ (c:Cx sem) (W:CxWf c) (s:TS sem) {κ ln z env h n} (R:RJ J P κ ln z c { s with dy:=false } env h n) {ρ':Ty} (Kf:TS sem→sem.Ans ρ') (w:ρ'.den),(∀ κ ln z s' env' h' n',RJ J P κ ln z c s' env' h' n'→Kf s'=some w→SatL P nt D O cs Q ⟨env',h',n'⟩)→
      (if (okD c (ops.toList.map (·.dst))&&kbJ nt ops.toList)=true then (if draw=true then drawV P c Δ nt ops.toList { s with dy:=false } Kf else xops P c Δ (ops.toList.map (·.dst)) ops.toList { s with dy:=false } Kf) else sem.fail "slot that stays")=some w→SatL P nt D O (.region id ops draw::cs) Q ⟨env,h,n⟩:=by
     intro c W s κ ln z env h n R ρ' Kf w hK hki
     split at hki
     ·rename_i hc
      rw [Bool.and_eq_true] at hc
      split at hki
      ·rename_i hd
       subst hd
       have:=kqf (N:=nt) (D:=D) (O:=O) (Q:=Q) (id:=id) hΔ R.R (fun κ' ln' z' s' env' h' n' ke R' hk'=>hK κ' ln' z' s' env' h' n' (R.ke W ke R') hk') hki
       rw [show ops.toList.toArray=ops from rfl] at this
       exact this
      ·rename_i hd
       rw [Bool.not_eq_true] at hd
       subst hd
       have:=Sat.region (P:=P) (N:=nt) (D:=D) (O:=O) (Q:=thenQ (SatL P nt D O cs Q) Q) (st:=⟨env,h,n⟩) (id:=id) hc.2 (kcc hΔ hc.1 (K:=fun st=>SatL P nt D O cs Q st) (fun κ' ln' z' s' env' h' n' ke R' hk'=>hK κ' ln' z' s' env' h' n' (R.ke W ke R') hk') ops.toList .refl (Nat.le_refl _) (fun o ho=>List.mem_map.2 ⟨o,ho,rfl⟩) R.R hki)
       rw [show ops.toList.toArray=ops from rfl] at this
       exact this
     ·exact kaa hki
    split at hk
    ·
     rename_i k hyi
     have hIM:(alk Δ IM).isSome=true:=by
      unfold yIdx at hyi
      split at hyi
      ·cases hyi
      ·rename_i hn; cases hh:alk Δ IM with
       | none=>rw [hh] at hn; exact absurd rfl hn
       | some C=>rfl
     obtain ⟨G,hD,okG,hIF,hJ0,hJκ⟩:=hY.2 hIM
     split at hk
     ·exact kaa hk
     rename_i y hyk
     obtain ⟨hsplit,hlen⟩:=kiM hyk
     split at hk
     rotate_left
     ·exact kaa hk
     rename_i hc
     simp only [Bool.and_eq_true] at hc
     obtain ⟨⟨⟨hc1,hc2⟩,hcg⟩,hc3⟩:=hc
     have hgn:y.guard=none:=by simpa using hcg
     have hdstM:∀ (l:List Oper),(∀ o∈l,o∈ops.toList)→∀ o∈l,o.dst∈ops.toList.map (·.dst):=fun l hl o ho=>List.mem_map.2 ⟨o,hl o ho,rfl⟩
     have hm1:∀ o∈ops.toList.take k,o∈ops.toList:=fun o ho=>List.mem_of_mem_take ho
     have hm2:∀ o∈ops.toList.drop (k+1),o∈ops.toList:=fun o ho=>List.mem_of_mem_drop ho
     have hym:y∈ops.toList:=List.mem_of_getElem? hyk
     have hyd:∀ d,y.dst=some d→alk c.e0 d=none:=fun d hd=>by
      have:=List.all_eq_true.1 (show (ops.toList.map (·.dst)).all _=true from hc1) (y.dst) (List.mem_map.2 ⟨y,hym,rfl⟩)
      rw [hd] at this; simpa using this
     have stp:∀ κ1 ln1 z1 s1 env1 h1 n1,Ke c s.n κ ln κ1 ln1→Rel P κ1 ln1 z1 c s1 env1 h1 n1→klE (A:=sem) c Δ s1 y (fun s2=>xops P c Δ (ops.toList.map (·.dst)) (ops.toList.drop (k+1)) s2 fun s3=>mach P Δ An nt fuel (A:=sem) (r:=.un) (ρ:=.un) kmI c cs kqH s3)
       (fun s2=>xops P c Δ (ops.toList.map (·.dst)) (ops.toList.drop (k+1)) s2 fun s3=>mach P Δ An nt fuel res c cs K s3)=some rr→kgD P G (ops.toList.map (·.dst)) y (ops.toList.drop (k+1)) (fun st=>SatL P nt D O cs Q st) ⟨env1,h1,n1⟩:=fun κ1 ln1 z1 s1 env1 h1 n1 ke R1 hk1=>by
      have RJ1:=R.ke W ke R1
      have hκ0:κ1 0=some G.l:=by rw [(RJ1.j 0 (.yl 0) 0 hJ0 (by simp [TV.has])).1]; exact hJκ
      refine (kpv hIF W R1 hκ0 hyd hk1 (fun s2 env2 R2 hn2 hk2=>?_) (fun s2 env2 w0 R2 hn2 hk2=>?_)).1
      ·exact kcc hΔ hc1 (K:=fun st=>SatL P nt D O cs Q st) (fun κ' ln' z' s' env' h' n' ke' R' hk'=>IH _ _ _ _ _ _ _ _ _ _ _ _ W ((⟨R2,RJ1.j,RJ1.w⟩:RJ J P κ1 ln1 ahN c s2 env2 ah0 n1).ke W ke' R') ok hk') _ .refl (Nat.le_refl _) (hdstM _ hm2) R2 hk2
      ·refine kcc hΔ hc1 (K:=fun st=>SatL P nt D O cs Q st) (fun κ' ln' z' s' env' h' n' ke' R' hk'=>?_) _ .refl (Nat.le_refl _) (hdstM _ hm2) R2 hk2
       refine @IHg .un _ J (fun _ st=>lk st.env GS = .ud) (fun c κ ln s env h n v W R hv=>?_) hY .un c cs _ s' Q w0 κ' ln' z' env' h' n' W ((⟨R2,RJ1.j,RJ1.w⟩:RJ J P κ1 ln1 ahN c s2 env2 ah0 n1).ke W ke' R') ⟨fun _ _ _ _ _ _ _ _ hf=>kaa hf,fun _ _ _ _ _ _ _ _ _ hf=>kaa hf,fun v st hv _=>ok.stop (by rw [hD]; rfl) st hv,ok.stop⟩ hk'
       unfold kmI at hv
       split at hv
       ·rename_i hud
        have hR:=R.R.env GS
        have:tlk c s GS = .ud:=by unfold tlk; rw [hud]
        rw [this] at hR
        show lk env GS = .ud
        generalize lk env GS=a at hR
        cases hR; rfl
       ·cases hv
     have hopsA:(ops.toList.take k++y::ops.toList.drop (k+1)).toArray=ops:=by rw [←hsplit]
     split at hk
     ·rename_i hdr
      subst hdr
      have hc1':okD c ((ops.toList.take k).map (·.dst))=true:=by
       have:=hc1
       unfold okD at this ⊢
       rw [List.all_eq_true] at this ⊢
       intro d hd
       obtain ⟨o,ho,rfl⟩:=List.mem_map.1 hd
       exact this _ (List.mem_map.2 ⟨o,hm1 o ho,rfl⟩)
      simp only [Bool.not_true,Bool.false_or,Bool.and_eq_true] at hc3
      obtain ⟨⟨hmx,hdo⟩,hbar⟩:=hc3
      obtain ⟨E,V,A,W',H,M,L,hyk',_,hd1⟩:=ksp (Gd:=fun st=>kgD P G (ops.toList.map (·.dst)) y (ops.toList.drop (k+1)) (fun st=>SatL P nt D O cs Q st) st) hΔ hc1' R.R stp hk
      have:=Sat.drawY (P:=P) (N:=nt) (D:=D) (O:=O) (Q:=thenQ (SatL P nt D O cs Q) Q) (id:=id) hD okG hmx hgn (by rw [←hsplit]; exact hdo) (by rw [←hsplit,hlen]; exact hbar) hd1 (by rw [←hsplit]; exact hc2) L (by rw [←hsplit]; exact hyk')
      rw [hopsA] at this
      exact this
     ·rename_i hdr
      rw [Bool.not_eq_true] at hdr
      subst hdr
      have hx:=kcc hΔ hc1 (K:=fun st=>kgD P G (ops.toList.map (·.dst)) y (ops.toList.drop (k+1)) (fun st=>SatL P nt D O cs Q st) st) stp (ops.toList.take k) (s:={ s with dy:=false }) .refl (Nat.le_refl _) (hdstM _ hm1) R.R hk
      have:=Sat.regionY (P:=P) (N:=nt) (D:=D) (O:=O) (Q:=thenQ (SatL P nt D O cs Q) Q) (id:=id) (st:=⟨env,h,n⟩) hD okG hgn (by rw [←hsplit]; exact hc2) (by rw [←hsplit]; exact hx)
      rw [hopsA] at this
      exact this
    split at hk
    ·exact reg c W s R _ rr (fun κ ln z s' env' h' n' R' hk'=>IH _ _ _ _ _ _ _ _ _ _ _ _ W R' ok hk') hk
    ·rename_i a ha
     split at hk
     ·exact kaa hk
     ·rename_i hok
      replace hok:okLa a c s=true:=by simpa using hok
      obtain ⟨y,hy,hk⟩:=Option.bind_eq_some_iff.1 hk
      have R0:RJ J P κ ln ahN c s env h n:=⟨⟨R.R.env,R.R.blk,R.R.lt,R.R.inj,R.R.zin,R.R.zout,R.R.bnd,R.R.hn,R.R.e0,R.R.g,fun _=>rfl,R.R.zk,R.R.fam⟩,R.j,R.w⟩
      have W':=kjX R0.R W hok
      have R1:=R0.into hok
      have R1':RJ J P κ ln ahN (inCx a c s) { (⟨s.env.filter (fun x=>!a.keep.contains x.1),s.hp.filter (fun x=>!a.gids.contains x.1),s.n,s.dy⟩:TS sem) with dy:=false } env h n:=⟨⟨R1.R.env,R1.R.blk,R1.R.lt,R1.R.inj,R1.R.zin,R1.R.zout,R1.R.bnd,R1.R.hn,R1.R.e0,R1.R.g,fun _=>rfl,R1.R.zk,R1.R.fam⟩,R1.j,R1.w⟩
      have hcl:∀ id,(inCx a c s).has id=true→id<a.n:=fun id hi=>Nat.lt_of_lt_of_le (R1.R.has_lt W' hi) (kcB hok).2.2.2.2.2.2
      refine reg (inCx a c s) W' ⟨s.env.filter (fun x=>!a.keep.contains x.1),s.hp.filter (fun x=>!a.gids.contains x.1),s.n,s.dy⟩ R1' _ y (fun κ ln z s' env' h' n' R' hk'=>?_) hy
      split at hk'
      ·rename_i y' hy'
       cases hk'
       obtain ⟨κ2,ln2,z2,R2⟩:=kgP R0 hok hcl R' hy'
       exact IH _ _ _ _ _ _ _ _ _ _ _ _ W R2 ok hk
      ·exact kaa hk'
   case cond x a b=>
    have hx:=R.R.ev x
    split at hk
    ·rename_i he
     rw [he] at hx
     generalize hev:ev env x=av at hx
     cases hx
     exact SatL.condT hev rfl (IH _ _ _ _ _ _ _ _ _ _ _ _ W R ok hk)
    ·rename_i he
     rw [he] at hx
     generalize hev:ev env x=av at hx
     cases hx
     exact SatL.condF hev rfl (IH _ _ _ _ _ _ _ _ _ _ _ _ W R ok hk)
    ·rename_i v he
     rw [he] at hx
     have hev:=hx.b_inv
     split at hk
     ·rcases kbz hk with ⟨hb,hk⟩ | ⟨hb,hk⟩
      ·exact SatL.condT hev hb (IH _ _ _ _ _ _ _ _ _ _ _ _ W R ok hk)
      ·exact SatL.condF hev hb (IH _ _ _ _ _ _ _ _ _ _ _ _ W R ok hk)
     ·rename_i l hl
      split at hk
      ·exact kaa hk
      ·rename_i hok
       replace hok:okLa l c s=true:=by simpa using hok
       have W':=kjX R.R W hok
       have R1:=R.into hok
       have hcl:∀ id,(inCx l c s).has id=true→id<l.n:=fun id hi=>Nat.lt_of_lt_of_le (R1.R.has_lt W' hi) (kcB hok).2.2.2.2.2.2
       refine Sat.ofL (Q:=thenQ (SatL P nt D O cs Q) Q) ?_
       have both:∀ {ρ':Ty} (K':Kon sem r ρ') (w:ρ'.den),KonOk D J P (thenQ (SatL P nt D O cs Q) Q) RetQ (inCx l c s) K' w→sem.ite v (mach P Δ An nt fuel res (inCx l c s) [a] K' ⟨s.env.filter (fun x=>!l.keep.contains x.1),s.hp.filter (fun x=>!l.gids.contains x.1),s.n,s.dy⟩) (mach P Δ An nt fuel res (inCx l c s) [b] K' ⟨s.env.filter (fun x=>!l.keep.contains x.1),s.hp.filter (fun x=>!l.gids.contains x.1),s.n,s.dy⟩)=some w→SatL P nt D O [.cond x a b] (thenQ (SatL P nt D O cs Q) Q) ⟨env,h,n⟩:=fun K' w ok' hk'=>by
        rcases kbz hk' with ⟨hb,hk'⟩ | ⟨hb,hk'⟩
        ·exact SatL.condT hev hb (IH _ _ _ _ _ _ _ _ _ _ _ _ W' R1 ok' hk')
        ·exact SatL.condF hev hb (IH _ _ _ _ _ _ _ _ _ _ _ _ W' R1 ok' hk')
       split at hk
       ·obtain ⟨w,hw,hk⟩:=Option.bind_eq_some_iff.1 hk
        refine both _ w ⟨fun κ ln z s' env' h' n' R' hk'=>?_,fun id κ ln z s' env' h' n' R' hk'=>kaa hk',fun v' st hv' hk'=>?_,ok.stop⟩ hw
        ·dsimp only at hk'
         split at hk'
         ·rename_i y' hy'
          cases hk'
          obtain ⟨κ2,ln2,z2,R2⟩:=kgP R hok hcl R' hy'
          exact IH _ _ _ _ _ _ _ _ _ _ _ _ W R2 ok hk
         ·exact kaa hk'
        ·cases hk'
         exact ok.retv v' st hv' hk
       ·obtain ⟨w,hw,hk⟩:=Option.bind_eq_some_iff.1 hk
        refine both _ w ⟨fun κ ln z s' env' h' n' R' hk'=>?_,fun id κ ln z s' env' h' n' R' hk'=>kaa hk',fun v' st hv' hk'=>kaa hk',ok.stop⟩ hw
        dsimp only at hk'
        split at hk'
        ·rename_i y' hy'
         cases hk'
         obtain ⟨κ2,ln2,z2,R2⟩:=kgP R hok hcl R' hy'
         exact IH _ _ _ _ _ _ _ _ _ _ _ _ W R2 ok hk
        ·exact kaa hk'
    ·exact kaa hk
   case block id b=>
    have gen:∀ b',mach P Δ An nt fuel res c [b'] (⟨fun s=>mach P Δ An nt fuel res c cs K s,fun id' s=>if id'=id then mach P Δ An nt fuel res c cs K s else K.ext id' s,K.retv⟩:Kon sem r ρ) s=some rr→SatL P nt D O (.block id b'::cs) Q ⟨env,h,n⟩:=fun b' hkb=>by
     refine SatL.block (IH _ _ _ _ (kdG id (thenQ (SatL P nt D O cs Q) Q)) _ _ _ _ _ _ _ W R ⟨fun κ ln z s' env' h' n' R' hk'=>?_,fun id' κ ln z s' env' h' n' R' hk'=>?_,fun v st hv hk'=>?_,ok.stop⟩ hkb)
     ·exact IH _ _ _ _ _ _ _ _ _ _ _ _ W R' ok hk'
     ·dsimp only at hk'
      simp only [kdG]
      split at hk'
      ·rename_i e
       rw [if_pos e]
       exact IH _ _ _ _ _ _ _ _ _ _ _ _ W R' ok hk'
      ·rename_i e
       rw [if_neg e]
       exact ok.ext id' _ _ _ _ _ _ _ R' hk'
     ·exact ok.retv v st hv hk'
    cases b with
    | loop b=>
     dsimp only at hk
     split at hk
     ·exact kaa hk
     ·rename_i l hl
      split at hk
      ·exact kaa hk
      ·rename_i hok
       replace hok:okLa l c s=true:=by simpa using hok
       have W':=kjX R.R W hok
       have R1:=R.into hok
       have hcs:∀ id,(inCx l c s).has id=true→id<s.n:=fun id hi=>R1.R.has_lt W' hi
       have hcl:∀ id,(inCx l c s).has id=true→id<l.n:=fun id hi=>Nat.lt_of_lt_of_le (hcs id hi) (kcB hok).2.2.2.2.2.2
       split at hk
       ·exact kaa hk
       ·rename_i x hx
        obtain ⟨κ0,ln0,z0,R0⟩:=kfP hok hcs R1 hx
        have loop:∀ {X:Type} (F:l.head.ty.den→Option (l.head.ty.den⊕X)) (e:X),iter F x=some e→
          (∀ (k:Nat) (st:St) (x:l.head.ty.den) (κ:Nat→Option Nat) (ln:Nat→Nat) (z:AH) (w:l.head.ty.den⊕X),RJ J P κ ln z (inCx l c s) (kad l.head s.n x) st.env st.h st.n→F x=some w→(w = .inr e∨∃ y,w = .inl y)→
           ∀ (I:l.head.ty.den→St→Prop),(∀ y st κ ln z,w = .inl y→RJ J P κ ln z (inCx l c s) (kad l.head s.n y) st.env st.h st.n→I y st)→SatL P nt D O [b] (thenQ (fun s'=>∃ y,w = .inl y∧I y s') (kdG id (thenQ (SatL P nt D O cs Q) Q))) st)→
          SatL P nt D O (.block id (.loop b)::cs) Q ⟨env,h,n⟩:=by
         intro X F e he round
         refine SatL.block (SatL.ofS (Sat.loop (fun (k:Nat) st=>∃ (x:l.head.ty.den) (κ:Nat→Option Nat) (ln:Nat→Nat) (z:AH),RJ J P κ ln z (inCx l c s) (kad l.head s.n x) st.env st.h st.n∧itN F k x=some e) (fun k=>k) 18446744073709551616 ⟨x,κ0,ln0,z0,R0,he⟩ ?_))
         rintro k st ⟨x,κ,ln,z,Rx,hit⟩
         obtain ⟨k',rfl,hstep⟩:=klh hit
         have fin:∀ w,F x=some w→(w = .inr e∨∃ y,w = .inl y)→(∀ y,w = .inl y→itN F k' y=some e)→Sat P nt D O b (thenQ (fun s'=>∃ x',(∃ (x:l.head.ty.den) (κ:Nat→Option Nat) (ln:Nat→Nat) (z:AH),RJ J P κ ln z (inCx l c s) (kad l.head s.n x) s'.env s'.h s'.n∧itN F x' x=some e)∧x'<k'+1) (kdG id (thenQ (SatL P nt D O cs Q) Q))) st:=fun w hw hor hin=>by
          refine Sat.ofL (SatL.mono (cs:=[b]) ?_ (round k' st x κ ln z w Rx hw hor (fun y st=>∃ κ ln z,RJ J P κ ln z (inCx l c s) (kad l.head s.n y) st.env st.h st.n) (fun y st κ ln z _ R=>⟨κ,ln,z,R⟩)))
          intro ex s' hq
          cases ex with
          | normal=>
           obtain ⟨y,hy,κ,ln,z,Ry⟩:=hq
           exact ⟨k',⟨y,κ,ln,z,Ry,hin y hy⟩,Nat.lt_succ_self _⟩
          | _=>exact hq
         rcases hstep with ⟨y,hy,hyk⟩ | hr
         ·exact fin _ hy (.inr ⟨y,rfl⟩) (fun y' e'=>by cases e'; exact hyk)
         ·exact fin _ hr (.inl rfl) (fun y' e'=>by cases e')
        split at hk
        ·obtain ⟨e,he,hk2⟩:=Option.bind_eq_some_iff.1 hk
         refine loop _ e he fun k st x κ ln z w Rx hw hor I hI=>?_
         refine IH _ _ _ _ _ _ _ _ _ _ _ _ W' Rx ⟨fun κ ln z s' env' h' n' R' hk'=>?_,fun id' κ ln z s' env' h' n' R' hk'=>?_,fun v st' hv hk'=>?_,ok.stop⟩ hw
         ·dsimp only at hk'
          split at hk'
          ·rename_i y hy
           cases hk'
           obtain ⟨κ2,ln2,z2,R2⟩:=kfP hok hcs R' hy
           exact ⟨y,rfl,hI y ⟨env',h',n'⟩ κ2 ln2 z2 rfl R2⟩
          ·exact kaa hk'
         ·dsimp only at hk'
          split at hk'
          ·rename_i e1
           split at hk'
           ·rename_i y hy
            cases hk'
            rcases hor with hor | ⟨y',hor⟩
            ·cases hor
             obtain ⟨κ2,ln2,z2,R2⟩:=kgP R hok hcl R' hy
             subst e1
             exact khI (thenN (IH _ _ _ _ _ _ _ _ _ _ _ _ W R2 ok hk2))
            ·cases hor
           ·exact kaa hk'
          ·exact kaa hk'
         ·cases hk'
          rcases hor with hor | ⟨y',hor⟩
          ·cases hor; exact ok.retv v st' hv hk2
          ·cases hor
        ·obtain ⟨e,he,hk2⟩:=Option.bind_eq_some_iff.1 hk
         refine loop _ e he fun k st x κ ln z w Rx hw hor I hI=>?_
         refine IH _ _ _ _ _ _ _ _ _ _ _ _ W' Rx ⟨fun κ ln z s' env' h' n' R' hk'=>?_,fun id' κ ln z s' env' h' n' R' hk'=>?_,fun v st' hv hk'=>kaa hk',ok.stop⟩ hw
         ·dsimp only at hk'
          split at hk'
          ·rename_i y hy
           cases hk'
           obtain ⟨κ2,ln2,z2,R2⟩:=kfP hok hcs R' hy
           exact ⟨y,rfl,hI y ⟨env',h',n'⟩ κ2 ln2 z2 rfl R2⟩
          ·exact kaa hk'
         ·dsimp only at hk'
          split at hk'
          ·rename_i e1
           split at hk'
           ·rename_i y hy
            cases hk'
            rcases hor with hor | ⟨y',hor⟩
            ·cases hor
             obtain ⟨κ2,ln2,z2,R2⟩:=kgP R hok hcl R' hy
             subst e1
             exact khI (thenN (IH _ _ _ _ _ _ _ _ _ _ _ _ W R2 ok hk2))
            ·cases hor
           ·exact kaa hk'
          ·exact kaa hk'
    | rangeFunc f ps assign body=>
     dsimp only at hk
     split at hk
     ·exact kaa hk
     rename_i hIM
     have hD:D.it=none:=hY.1 (by cases hh:alk Δ IM with
      | none=>rfl
      | some C=>rw [hh] at hIM; exact absurd rfl hIM)
     refine SatL.wk R.R fun env h R1=>?_
     replace R:RJ J P κ ln ahN c { s with dy:=false } env h n:=⟨R1,R.j,R.w⟩
     clear R1
     generalize hs':({ s with dy:=false }:TS sem)=s' at *
     clear hs'
     split at hk
     rotate_left
     ·exact kaa hk
     rename_i g caps hf
     split at hk
     ·exact kaa hk
     rename_i I hI
     split at hk
     ·exact kaa hk
     rename_i la ids hl
     split at hk
     rotate_left
     ·exact kaa hk
     rename_i s0 a hs0 ha
     obtain ⟨e0',hp0,n0,dy0⟩:=s0
     split at hk
     ·exact kaa hk
     rename_i l hla
     split at hk
     ·exact kaa hk
     rename_i hcond
     simp only [Bool.or_eq_true,Bool.not_eq_true',not_or,Bool.not_eq_true,Bool.not_eq_false',ne_eq,Decidable.not_not,decide_eq_true_eq,Bool.not_eq_false] at hcond
     obtain ⟨⟨⟨⟨⟨hok,hhe⟩,hoe⟩,hps⟩,hpl⟩,hts⟩:=hcond
     split at hk
     ·exact kaa hk
     rename_i x hx
     obtain ⟨xs,hxs,hk⟩:=Option.bind_eq_some_iff.1 hk
     obtain ⟨e,he,hkE⟩:=Option.bind_eq_some_iff.1 hk
     obtain ⟨F,hF,he⟩:=kro he
     have hfe:=R.R.ev f
     rw [hf] at hfe
     obtain ⟨as,hfa,hcaps⟩:=hfe.fn_inv
     obtain ⟨C,hC,hIh⟩:=Option.bind_eq_some_iff.1 hI
     have hG:=(hΔ.at hC).2.2.2 I (List.mem_of_mem_head? hIh)
     obtain ⟨as',g1,g2,g3⟩:=kdK hΔ R.R _ _ _ hcaps hl
     have hAR:=kfS _ _ _ _ g1 ha
     have hit:=hG.2 a xs hxs as' hAR
     have Re:=R.R.eat rfl hs0
     have Rj:RJ J P κ ln ahN c ⟨e0',hp0,n0,false⟩ env _ n:=⟨Re,R.j,R.w⟩
     have W':=kjX Rj.R W hok
     have R1:=Rj.into hok
     have hcs:∀ id,(inCx l c (⟨e0',hp0,n0,false⟩:TS sem)).has id=true→id<n0:=fun id hi=>R1.R.has_lt W' hi
     have hcl:∀ id,(inCx l c (⟨e0',hp0,n0,false⟩:TS sem)).has id=true→id<l.n:=fun id hi=>Nat.lt_of_lt_of_le (hcs id hi) (kcB hok).2.2.2.2.2.2
     have hhe':l.head.env=[]:=by simpa using hhe
     have hoe':l.out.env=[]:=by simpa using hoe
     have hue:∀ y,(kad (A:=sem) l.head n0 y).env=[]:=fun y=>by unfold kad; rw [hhe']; rfl
     have huo:∀ y,(kad (A:=sem) l.out l.n y).env=[]:=fun y=>by unfold kad; rw [hoe']; rfl
     have base:∀ x,TVR P κ ln ahN n0 ((alk (inCx l c (⟨e0',hp0,n0,false⟩:TS sem)).e0 x).getD .un) (lk env x):=fun x=>by
      cases hx0:alk (inCx l c (⟨e0',hp0,n0,false⟩:TS sem)).e0 x with
      | none=>exact .un _
      | some v=>have:=R1.R.env x; rw [R1.R.e0_tlk hx0] at this; exact this
     have ctx:∀ {κ':Nat→Option Nat} {ln':Nat→Nat} {z':AH} {N':Nat},(∀ x v id,alk (inCx l c (⟨e0',hp0,n0,false⟩:TS sem)).e0 x=some v→v.has id=true→κ' id = κ id∧ln' id=ln id∧id<N')→∀ x,TVR P κ' ln' z' N' ((alk (inCx l c (⟨e0',hp0,n0,false⟩:TS sem)).e0 x).getD .un) (lk env x):=fun {κ' ln' z' N'} hag x=>by
      have hb:=base x
      cases hx0:alk (inCx l c (⟨e0',hp0,n0,false⟩:TS sem)).e0 x with
      | none=>exact .un _
      | some v=>
       rw [hx0] at hb
       exact hb.congr (fun id hi=>hag x v id hx0 hi) (fun q B hq=>by cases hq)
     have tl0:∀ (s1:TS sem) x,s1.env=[]→tlk (inCx l c (⟨e0',hp0,n0,false⟩:TS sem)) s1 x=(alk (inCx l c (⟨e0',hp0,n0,false⟩:TS sem)).e0 x).getD .un:=fun s1 x hs=>by unfold tlk; rw [hs]; rfl
     have swapU:∀ {κ':Nat→Option Nat} {ln':Nat→Nat} {z':AH} {y:l.head.ty.den} {env':Env} {h':AH} {n':Nat},RJ ⟨(inCx l c (⟨e0',hp0,n0,false⟩:TS sem)).e0,κ,ln⟩ P κ' ln' z' (inCx l c (⟨e0',hp0,n0,false⟩:TS sem)) (kad l.head n0 y) env' h' n'→RJ ⟨(inCx l c (⟨e0',hp0,n0,false⟩:TS sem)).e0,κ,ln⟩ P κ' ln' z' (inCx l c (⟨e0',hp0,n0,false⟩:TS sem)) (kad l.head n0 y) env h' n':=fun {κ' ln' z' y env' h' n'} Ru=>
      ⟨Ru.R.swap fun x=>by rw [tl0 _ x (hue y)]; exact ctx (fun x v id hxv hi=>⟨(Ru.j x v id hxv hi).1,(Ru.j x v id hxv hi).2,Ru.R.has_lt W' (kcG hxv hi)⟩) x,Ru.j,Ru.w⟩
     have fin:∀ {κ':Nat→Option Nat} {ln':Nat→Nat} {z':AH} {s1:TS sem} {y:l.out.ty.den} {env':Env} {h':AH} {n':Nat},RJ ⟨(inCx l c (⟨e0',hp0,n0,false⟩:TS sem)).e0,κ,ln⟩ P κ' ln' z' (inCx l c (⟨e0',hp0,n0,false⟩:TS sem)) s1 env' h' n'→pack (inCx l c (⟨e0',hp0,n0,false⟩:TS sem)) l.n l.out s1=some y→mach P Δ An nt fuel res c cs K (outTS l c (⟨e0',hp0,n0,false⟩:TS sem) y)=some rr→SatL P nt D O cs Q ⟨env,h',n'⟩:=fun {κ' ln' z' s1 y env' h' n'} Ru hy hk'=>by
      obtain ⟨κ2,ln2,z2,R2,ag⟩:=kqJ Rj.R hok hcl Ru.R hy
      have hag:∀ x v id,alk (inCx l c (⟨e0',hp0,n0,false⟩:TS sem)).e0 x=some v→v.has id=true→κ2 id = κ id∧ln2 id=ln id∧id<l.n:=fun x v id hxv hi=>
       ⟨(ag id (kcG hxv hi)).1.trans (Ru.j x v id hxv hi).1,(ag id (kcG hxv hi)).2.trans (Ru.j x v id hxv hi).2,hcl id (kcG hxv hi)⟩
      have R3:Rel P κ2 ln2 z2 c (outTS l c (⟨e0',hp0,n0,false⟩:TS sem) y) env h' n':=R2.swap fun x=>by
       have ht:tlk c (outTS l c (⟨e0',hp0,n0,false⟩:TS sem) y) x=(alk (inCx l c (⟨e0',hp0,n0,false⟩:TS sem)).e0 x).getD .un:=by
        unfold tlk
        have:alk (outTS l c (⟨e0',hp0,n0,false⟩:TS sem) y).env x=if l.keep.contains x then some (tlk c (⟨e0',hp0,n0,false⟩:TS sem) x) else none:=by
         show alk ((kad (A:=sem) l.out l.n y).env++l.keep.map fun x=>(x,tlk c (⟨e0',hp0,n0,false⟩:TS sem) x)) x=_
         rw [huo,List.nil_append,kil]
        rw [this,kft]
        split <;> rename_i hc2 <;> split at hc2 <;> simp_all
       rw [ht]
       exact ctx hag x
      refine IH _ _ _ _ _ _ _ _ _ _ _ _ W ⟨R3,fun x v id hv hi=>?_,Rj.w⟩ ok hk'
      have hv':alk (inCx l c (⟨e0',hp0,n0,false⟩:TS sem)).e0 x=some v:=R1.w x v hv
      exact ⟨(hag x v id hv' hi).1.trans (R.j x v id hv hi).1,(hag x v id hv' hi).2.1.trans (R.j x v id hv hi).2⟩
     have R1r:RJ ⟨(inCx l c (⟨e0',hp0,n0,false⟩:TS sem)).e0,κ,ln⟩ P κ ln ahN (inCx l c (⟨e0',hp0,n0,false⟩:TS sem)) ⟨e0'.filter (fun x=>!l.keep.contains x.1),hp0.filter (fun x=>!l.gids.contains x.1),n0,false⟩ env _ n:=⟨R1.R,fun x v id _ _=>⟨rfl,rfl⟩,fun x v h=>h⟩
     obtain ⟨κ0,ln0,z0,R0⟩:=kfP hok hcs R1r hx
     have hnoIM:¬ (alk Δ IM).isSome=true:=hIM
     have stops:∀ {Q':Exit→St→Prop},D.it.isSome=true→∀ st,lk st.env GS = .ud→Q' .ret st:=fun hi=>by rw [hD] at hi; cases hi
     refine SatL.block (SatL.ofS (Sat.rangeFunc hD (ids.flatMap (ows κ ln c s')) hfa (hE:=hz (ows κ ln c s') h ahN ids) (fun i B hi=>?_) (fun i B hi=>?_) g2 hit (fun y hy=>?_) (fun p hp=>?_)
      (fun k h n=>∃ m x κ' ln' z',itN F m ((k:Int),x)=some e∧RJ ⟨(inCx l c (⟨e0',hp0,n0,false⟩:TS sem)).e0,κ,ln⟩ P κ' ln' z' (inCx l c (⟨e0',hp0,n0,false⟩:TS sem)) (kad l.head n0 x) env h n) ⟨18446744073709551616,x,κ0,ln0,z0,he,R0⟩ (fun k xA h1 n1 hxA hI1=>?_) (fun h1 n1 hI1=>?_)))
     ·refine ⟨?_,kcY R.R.zin i B hi⟩
      unfold hz at hi
      split at hi
      ·rename_i hany
       obtain ⟨id,hid,hke⟩:=List.any_eq_true.1 hany
       rw [List.contains_iff_mem]
       exact List.mem_flatMap.2 ⟨id,hid,by simpa using hke⟩
      ·cases hi
     ·split at hi
      ·cases hi
      ·rename_i hcon; exact ⟨by simpa using hcon,hi⟩
     ·obtain ⟨y',_,rfl⟩:=List.mem_map.1 hy
      rw [koK]; exact hpl
     ·have:=List.all_eq_true.1 hps p hp
      simp only [Bool.and_eq_true,decide_eq_true_eq] at this
      exact this.2
     ·obtain ⟨m,x1,κ1,ln1,z1,hm,Ru⟩:=hI1
      rw [List.getElem?_map] at hxA
      obtain ⟨e',he',rfl⟩:=Option.map_eq_some_iff.1 hxA
      obtain ⟨m',rfl,hstep⟩:=klh hm
      obtain ⟨w,hw,hor⟩:∃ w,F ((k:Int),x1)=some w∧(w = .inr e∨∃ y,w = .inl y∧itN F m' y=some e):=by
       rcases hstep with ⟨y,hy,hyk⟩ | hr
       ·exact ⟨_,hy,.inr ⟨y,rfl,hyk⟩⟩
       ·exact ⟨_,hr,.inl rfl⟩
      rw [hF] at hw
      dsimp only at hw
      rcases kbz hw with ⟨hb,hw⟩ | ⟨hb,hw⟩
      rotate_left
      ·exfalso
       have hlt:=(List.getElem?_eq_some_iff.1 he').1
       have hb2:¬ ((k:Int)<(xs.length:Int)):=of_decide_eq_false hb
       omega
      obtain ⟨e2,hge,hw⟩:=Option.bind_eq_some_iff.1 hw
      have hee:e2=e':=by
       have h3:=(koX hge).2
       simp only [Int.toNat_natCast] at h3
       rw [he'] at h3; cases h3; rfl
      subst hee
      have hl2:(unT sem I.ts e2).length=ps.toList.length:=by rw [kpB]; simpa using hpl
      have Rr:RJ ⟨(inCx l c (⟨e0',hp0,n0,false⟩:TS sem)).e0,κ,ln⟩ P κ1 ln1 z1 (inCx l c (⟨e0',hp0,n0,false⟩:TS sem)) ⟨rndE ps.toList (unT sem I.ts e2) (kad (A:=sem) l.head n0 x1).env,(kad (A:=sem) l.head n0 x1).hp,(kad (A:=sem) l.head n0 x1).n,(kad (A:=sem) l.head n0 x1).dy⟩ (kgY ps.toList (avsL I.ts e2) env) h1 n1:=by
       refine ⟨⟨fun y=>krP _ _ _ ps.toList _ _ _ _ hl2 (kiu I.ts e2 hts) (fun t=>Ru.R.env t) y,Ru.R.blk,Ru.R.lt,Ru.R.inj,Ru.R.zin,Ru.R.zout,Ru.R.bnd,Ru.R.hn,fun y v hy=>?_,Ru.R.g,Ru.R.dy,Ru.R.zk,Ru.R.fam⟩,Ru.j,Ru.w⟩
       rcases ktv ps.toList _ _ hy with hy | hy
       ·have:=List.all_eq_true.1 hps y hy
        simp only [Bool.and_eq_true,Option.isNone_iff_eq_none] at this
        exact this.1
       ·rw [hue] at hy; cases hy
      have hresR:∀ (c1:Cx sem) κ2 ln2 s1 env1 h1 n1 v,CxWf c1→RJ ⟨(inCx l c (⟨e0',hp0,n0,false⟩:TS sem)).e0,κ,ln⟩ P κ2 ln2 ahN c1 s1 env1 h1 n1→(fun (c1:Cx sem) (s1:TS sem)=>res ⟨(inCx l c (⟨e0',hp0,n0,false⟩:TS sem)).e0,c1.g⟩ ⟨[],s1.hp,s1.n,s1.dy⟩) c1 s1=some v→(fun v (st:St)=>RetQ v ⟨env,st.h,st.n⟩) v ⟨env1,h1,n1⟩:=fun c1 κ2 ln2 s1 env1 h1 n1 v W1 Rc hv=>by
       refine hres ⟨(inCx l c (⟨e0',hp0,n0,false⟩:TS sem)).e0,c1.g⟩ κ2 ln2 ⟨[],s1.hp,s1.n,s1.dy⟩ env h1 n1 v ⟨W'.e0,W1.g⟩ ⟨⟨fun y=>?_,Rc.R.blk,Rc.R.lt,Rc.R.inj,Rc.R.zin,Rc.R.zout,Rc.R.bnd,Rc.R.hn,fun y v hy=>(by cases hy),Rc.R.g,Rc.R.dy,Rc.R.zk,Rc.R.fam⟩,fun y v id hv hi=>?_,fun y v hv=>R1.w y v hv⟩ hv
       ·show TVR P κ2 ln2 ahN s1.n ((alk (inCx l c (⟨e0',hp0,n0,false⟩:TS sem)).e0 y).getD .un) (lk env y)
        exact ctx (fun x v id hxv hi=>⟨(Rc.j x v id hxv hi).1,(Rc.j x v id hxv hi).2,Rc.R.has_lt W1 (kcG (Rc.w x v hxv) hi)⟩) y
       ·have hv':alk (inCx l c (⟨e0',hp0,n0,false⟩:TS sem)).e0 y=some v:=R1.w y v hv
        exact ⟨(Rc.j y v id hv' hi).1.trans (R.j y v id hv hi).1,(Rc.j y v id hv' hi).2.trans (R.j y v id hv hi).2⟩
      have hYr:YOk P D Δ ⟨(inCx l c (⟨e0',hp0,n0,false⟩:TS sem)).e0,κ,ln⟩:=⟨fun _=>hD,fun hh=>absurd hh hnoIM⟩
      refine Sat.ofL (SatL.mono (cs:=[assign]) (fun e s hq=>hq) (@IHg r (fun (c1:Cx sem) (s1:TS sem)=>res ⟨(inCx l c (⟨e0',hp0,n0,false⟩:TS sem)).e0,c1.g⟩ ⟨[],s1.hp,s1.n,s1.dy⟩) ⟨(inCx l c (⟨e0',hp0,n0,false⟩:TS sem)).e0,κ,ln⟩ (fun v (st:St)=>RetQ v ⟨env,st.h,st.n⟩) hresR hYr (.sm (.pr (.i .i64) l.head.ty) (.sm r l.out.ty)) (inCx l c (⟨e0',hp0,n0,false⟩:TS sem)) [assign] _ _ (thenQ (fun s=>Sat P nt D O body (bodyQ (kdG id (thenQ (SatL P nt D O cs Q) Q)) env (fun k h n=>∃ m x κ' ln' z',itN F m ((k:Int),x)=some e∧RJ ⟨(inCx l c (⟨e0',hp0,n0,false⟩:TS sem)).e0,κ,ln⟩ P κ' ln' z' (inCx l c (⟨e0',hp0,n0,false⟩:TS sem)) (kad l.head n0 x) env h n) k) s) (fun _ _=>False)) w κ1 ln1 z1 _ h1 n1 W' Rr
       ⟨fun κ2 ln2 z2 s2 env2 h2 n2 Rb hkb=>?_,fun _ _ _ _ _ _ _ _ _ hf=>kaa hf,fun _ _ _ hf=>kaa hf,stops⟩ hw))
      refine Sat.ofL (@IHg r (fun (c1:Cx sem) (s1:TS sem)=>res ⟨(inCx l c (⟨e0',hp0,n0,false⟩:TS sem)).e0,c1.g⟩ ⟨[],s1.hp,s1.n,s1.dy⟩) ⟨(inCx l c (⟨e0',hp0,n0,false⟩:TS sem)).e0,κ,ln⟩ (fun v (st:St)=>RetQ v ⟨env,st.h,st.n⟩) hresR hYr (.sm (.pr (.i .i64) l.head.ty) (.sm r l.out.ty)) (inCx l c (⟨e0',hp0,n0,false⟩:TS sem)) [body] _ s2 _ w κ2 ln2 z2 env2 h2 n2 W' Rb ⟨fun κ3 ln3 z3 s3 env3 h3 n3 Rc hk3=>?_,fun id' κ3 ln3 z3 s3 env3 h3 n3 Rc hk3=>?_,fun v st hv hk3=>?_,stops⟩ hkb)
      ·dsimp only at hk3
       split at hk3
       ·rename_i y hy
        cases hk3
        obtain ⟨κ4,ln4,z4,R4⟩:=kfP hok hcs Rc hy
        rcases hor with hor | ⟨y',hor,hyk⟩
        ·cases hor
        ·cases hor
         exact ⟨m',y,κ4,ln4,z4,by rw [show ((k+1:Nat):Int)=(k:Int)+1 by omega]; exact hyk,swapU R4⟩
       ·exact kaa hk3
      ·dsimp only at hk3
       split at hk3
       ·rename_i e1
        split at hk3
        ·rename_i y hy
         cases hk3
         rcases hor with hor | ⟨y',hor,_⟩
         ·cases hor
          subst e1
          exact khI (thenN (fin Rc hy hkE))
         ·cases hor
        ·exact kaa hk3
       ·exact kaa hk3
      ·cases hk3
       rcases hor with hor | ⟨y',hor,_⟩
       ·cases hor
        exact ok.retv v _ hv hkE
       ·cases hor
     ·obtain ⟨m,x1,κ1,ln1,z1,hm,Ru⟩:=hI1
      obtain ⟨m',rfl,hstep⟩:=klh hm
      have hw:∃ w,F (((xs.map fun y=>avsL I.ts y).length:Int),x1)=some w∧(w = .inr e∨∃ y,w = .inl y∧itN F m' y=some e):=by
       rcases hstep with ⟨y,hy,hyk⟩ | hr
       ·exact ⟨_,hy,.inr ⟨y,rfl,hyk⟩⟩
       ·exact ⟨_,hr,.inl rfl⟩
      obtain ⟨w,hw,hor⟩:=hw
      rw [hF] at hw
      dsimp only at hw
      rcases kbz hw with ⟨hb,hw⟩ | ⟨hb,hw⟩
      ·exfalso
       simp only [List.length_map,decide_eq_true_eq,ksR] at hb
       omega
      split at hw
      ·rename_i y hy
       cases hw
       rcases hor with hor | ⟨y',hor,_⟩
       ·cases hor
        exact fin Ru hy hkE
       ·cases hor
      ·exact kaa hw
    | _=>exact gen _ hk
   all_goals exact kaa hk
end
end Go.Abs
namespace Go.Abs
open Go Go.RowKit
section
variable {P:Program} {κ:Nat→Option Nat} {ln:Nat→Nat} {z:AH} {c:Cx sem} {s:TS sem} {env:Env} {h:AH} {n:Nat}
theorem hz_le (R:Rel P κ ln z c s env h n) (ids:List Nat):∀ q B,hz (ows κ ln c s) h z ids q=some B→h q=some B:=by
 intro q B hq
 unfold hz at hq
 split at hq
 ·exact hq
 ·exact R.zin q B hq
theorem kks (R:Rel P κ ln z c s env h n) {T:TypeId} {x:Tmp} {w:TV sem} (hc:cellX P c s T (tlk c s x)=some w) :
  ∃ a,kcl P h env (.cell x T)=some a∧TVR P κ ln z s.n w a:=by
 have hv:=R.env x
 unfold cellX at hc
 split at hc
 ·cases hc
 ·rename_i ag hag
  split at hc
  ·rename_i id j he
   rw [he] at hv
   generalize hE:lk env x=a at hv
   cases hv with
   | ptr _ _ q hN hq=>
    split at hc
    ·rename_i T' vs hB
     cases R.blk _ _ hB with
     | bx _ _ q' as hq' hh hvs h1=>
      rw [hq] at hq'; cases hq'
      have hl:=hvs.len
      have hd:deref h (lk env x)=some (as.drop j):=by rw [hE]; simp only [deref,hh]; rfl
      cases ag with
      | true=>
       simp only [if_true] at hc
       split at hc
       ·rename_i hle
        cases hc
        refine ⟨_,?_,.ag _ _ ((hvs.drop j).take _) (fun a ha=>h1 a (List.mem_of_mem_drop (List.mem_of_mem_take ha)))⟩
        simp only [kcl,hd,hag]
        rw [if_pos (by simp; omega)]
       ·cases hc
      | false=>
       simp only [Bool.false_eq_true,if_false] at hc
       obtain ⟨a,ha,hva⟩:=hvs.at hc
       refine ⟨a,?_,hva⟩
       simp only [kcl,hd,hag]
       rw [List.getElem?_drop]; simpa using ha
    ·rename_i T' t y hB
     cases R.blk _ _ hB with
     | el _ _ _ q' cs hd hq' hh hvs h1 hl=>
      rw [hq] at hq'; cases hq'
      have hdr:deref h (lk env x)=some (cs.drop j):=by rw [hE]; simp only [deref,hh]; rfl
      obtain ⟨p,hp,rfl⟩:=Option.map_eq_some_iff.1 hc
      obtain ⟨t',y'⟩:=p
      obtain ⟨g1,g2,g3,g4,g5⟩:=kfk t y j (P.cellsOf T) ag cs hd hp hvs
      obtain ⟨a,k1,k2,k3⟩:=kid (P:=P) (κ:=κ) (ln:=ln) (N:=s.n) (m:=P.cellsOf T) (cs:=cs.drop j) g1 g2 g3 g5 (by rw [List.length_drop]; omega)
      refine ⟨a,?_,k1⟩
      simp only [kcl,hdr,hag]
      cases ag with
      | true=>simp only []; rw [if_pos (by rw [List.length_drop]; omega),←k2 rfl]
      | false=>exact k3 rfl
    ·cases hc
  ·cases hc
theorem kiC (R:Rel P κ ln z c s env h n):∀ (l:List ResultVar) (rs:List Ty) (ys:List ((t:Ty)×sem.D t)),resX (A:=sem) P c s l rs=some ys→
  ∃ as bs,l.mapM (kcl P h env)=some as∧SnapL h as bs∧AL P ys bs∧rs.all Ty.dat=true
 | [],[],ys,hr=>by
  simp only [resX,Option.some.injEq] at hr; subst hr
  exact ⟨[],[],rfl,.nil,.nil,rfl⟩
 | .tmp t::l,r::rs,ys,hr=>by
  simp only [resX] at hr
  obtain ⟨⟨x,ids⟩,hx,hr⟩:=Option.bind_eq_some_iff.1 hr
  obtain ⟨y,hy,rfl⟩:=Option.map_eq_some_iff.1 hr
  obtain ⟨as,bs,h1,h2,h3,h4⟩:=kiC R l rs y hy
  obtain ⟨hd,hs,_⟩:=kbj R (R.env t) hx
  refine ⟨lk env t::as,r.av x::bs,?_,.cons (hs.mono (hz_le R ids)) h2,.cons ((kdU hd).2 rfl) h3,by simp [hd,h4]⟩
  rw [List.mapM_cons,h1]; rfl
 | .cell a T::l,r::rs,ys,hr=>by
  simp only [resX] at hr
  obtain ⟨v,hv,hr⟩:=Option.bind_eq_some_iff.1 hr
  obtain ⟨⟨x,ids⟩,hx,hr⟩:=Option.bind_eq_some_iff.1 hr
  obtain ⟨y,hy,rfl⟩:=Option.map_eq_some_iff.1 hr
  obtain ⟨as,bs,h1,h2,h3,h4⟩:=kiC R l rs y hy
  obtain ⟨u,hu,huv⟩:=kks R hv
  obtain ⟨hd,hs,_⟩:=kbj R huv hx
  refine ⟨u::as,r.av x::bs,?_,.cons (hs.mono (hz_le R ids)) h2,.cons ((kdU hd).2 rfl) h3,by simp [hd,h4]⟩
  rw [List.mapM_cons,h1,hu]; rfl
 | [],_::_,ys,hr=>by simp [resX] at hr
 | .tmp _::_,[],ys,hr=>by simp [resX] at hr
 | .cell _ _::_,[],ys,hr=>by simp [resX] at hr
theorem SnapL.tp {as bs:List AV} (hs:SnapL h as bs):Snap h (.tp as) (.tp bs):=.tp as bs hs.len hs.at
theorem kmY (R:Rel P κ ln z c s env h n) {l:List ResultVar} {rs:List Ty} {v:(tup rs).den} (hr:(resX (A:=sem) P c s l rs).bind (mkT sem rs)=some v) :
  ∃ a,kaZ P h env l=some a∧Snap h a (rav rs v):=by
 obtain ⟨ys,hy,hm⟩:=Option.bind_eq_some_iff.1 hr
 obtain ⟨as,bs,h1,h2,h3,h4⟩:=kiC R l rs ys hy
 have hb:=kjh h4 (kfS rs ys bs v h3 hm)
 subst hb
 have hl:=h2.len
 match rs,v,h2,hl with
 | [],v,h2,hl=>
  cases h2
  exact ⟨.tp [],by simp only [kaZ,h1],SnapL.tp .nil⟩
 | [t],v,h2,hl=>
  cases h2 with
  | cons h5 h6=>cases h6; exact ⟨_,by simp only [kaZ,h1],h5⟩
 | t::u::ts,v,h2,hl=>
  have e:rav (t::u::ts) v = .tp (avsL (t::u::ts) v):=rfl
  rw [e]
  match as,hl,h1,h2 with
  | [],hl,_,_=>simp [avsL] at hl
  | [_],hl,_,_=>exfalso; cases ts <;> simp [avsL] at hl
  | a::b::as,_,h1,h2=>exact ⟨_,by simp only [kaZ,h1],SnapL.tp h2⟩
theorem kpd:∀ {ys:List ((t:Ty)×t.den)} {as:List AV},AL P ys as→∀ (k x:Nat),TVR P κ ln z n (tlk (A:=sem) ⟨[],[]⟩ ⟨(ys.zipIdx k).map fun y=>(y.2,argT (A:=sem) y.1.1 y.1.2),[],n,false⟩ x) (lk ((as.zipIdx k).map fun (v,i)=>(i,v)) x)
 | [],_,.nil,k,x=>by exact .un _
 | p::ys,_,.cons (a:=a) (as:=as) h1 hl,k,x=>by
  have ih:=kpd hl (k+1) x
  simp only [List.zipIdx_cons,List.map_cons,tlk,alk,lk] at ih ⊢
  by_cases e:x=k
  ·simp only [if_pos e]
   obtain ⟨t,y⟩:=p
   cases t <;> first | exact .cv _ _ _ _ _ h1 | (obtain ⟨hd,rfl⟩:=h1; exact .c _ _ _ hd (.free _ (kgz _ _ hd)))
  ·simp only [if_neg e]; exact ih
theorem krZ:∀ {ts:List Ty} {x:(tup ts).den} {l:List AV},AR P ts x l→AL P (unT sem ts x) l
 | [],_,_,rfl=>.nil
 | [t],x,_,⟨a,rfl,h⟩=>.cons h .nil
 | t::u::ts,x,_,⟨a,l',rfl,h,h'⟩=>.cons h (krZ h')
theorem AL.len {ys:List ((t:Ty)×t.den)} {as:List AV} (h:AL P ys as):as.length=ys.length:=by induction h <;> simp [*]
theorem kqx:∀ (ts:List Ty) (x:(tup ts).den),(unT sem ts x).length=ts.length
 | [],_=>rfl
 | [t],_=>rfl
 | t::u::ts,x=>by simp [unT,kqx (u::ts)]
theorem kaj {g:FuncId} {C:Ctr} {f:Func} (hf:P.funcs[g]?=some f) (hd:(C.rs.all Ty.dat&&C.as.length≤f.ntmps&&!(f.name== "runtime.NumGoroutine"))=true) {An:List (Nat×La)} (Δ:List (FuncId×Ctr)) (hΔ:Goods P Δ)
  (he:∀ x,C.F x=machF P Δ (anL An) f C.as C.rs (A:=sem) x) (hM:∀ M∈C.mus,M.ok=true∧GoodM P g M:=by intro M h; cases h) (hI:∀ I∈C.its,GoodI P g I:=by intro M h; cases h) (hM0:(alk Δ IM).isNone=true:=by rfl):Good P g C:=by
 simp only [Bool.and_eq_true,Bool.not_eq_true',decide_eq_true_eq] at hd
 obtain ⟨⟨h1,h2⟩,h3⟩:=hd
 refine ⟨h1,fun x r hr l hl=>?_,hM,hI⟩
 rw [he,machF] at hr
 dsimp only at hr
 split at hr
 ·exact kaa hr
 ·rename_i body hb
  have hal:=krZ hl
  refine PC.of_body hf hb h3 (by rw [hal.len,kqx]; exact h2) fun D O hD=>?_
  refine kiH (D:=D) (O:=O) hΔ 1000000 (RetQ:=fun v st=>∃ a,kaZ P st.h st.env f.results.toList=some a∧Snap st.h a (rav C.rs v)) (J:=⟨[],fun _=>none,fun _=>0⟩) (fun c κ ln s env h n v _ R hv=>kmY R.R hv) (hY:=⟨fun _=>hD,fun hh=>absurd hh (by cases hx:alk Δ IM with | none=>decide | some C=>rw [hx] at hM0; cases hM0)⟩) ⟨[],[]⟩ [body] _ _ _ r (fun _=>none) (fun _=>0) (fun _=>none) (kat l) ah0 0
   ⟨fun x v h=>(by cases h),fun x B h=>(by cases h)⟩ ?_ ?_ hr
  ·refine ⟨⟨fun x=>?_,fun id B h=>(by cases h),fun id B h=>(by cases h),fun i j B B' q h=>(by cases h),fun q B h=>(by cases h),fun id B q h=>(by cases h),fun id B q h=>(by cases h),fun q _=>rfl,fun x v h=>rfl,fun id b h=>(by cases h),fun _=>rfl,fun q k T es h=>(by cases h),fun id B h=>(by cases h)⟩,fun x v id hv=>(by cases hv),fun x v hv=>(by cases hv)⟩
   exact kpd (n:=0) hal 0 x
  ·refine ⟨fun κ ln z s env h n R hk=>?_,fun id κ ln z s env h n R hk=>kaa hk,fun v st hv hk=>?_,fun hi=>by rw [hD] at hi; cases hi⟩
   ·dsimp only at hk
    split at hk
    ·rename_i v hv
     cases hk
     obtain ⟨a,q1,q2⟩:=kmY R.R hv
     exact ⟨a,q1,_,q2,rfl⟩
    ·exact kaa hk
   ·cases hk
    obtain ⟨a,q1,q2⟩:=hv
    exact ⟨a,q1,_,q2,rfl⟩
end
end Go.Abs
namespace Go.Abs
open Go Go.RowKit
section
variable {P:Program} {κ κ':Nat→Option Nat} {ln ln':Nat→Nat} {z z':AH} {c:Cx sem} {s:TS sem} {env:Env} {h h':AH} {n n' N N':Nat}
def tied:TV sem→Bool
 | .mw _ | .ptr _ _ | .mp _ | .fw _ | .kp _=>true
 | _=>false
theorem TVR.tied {v:TV sem} {a:AV} (ht:tied v=true) (h:TVR P κ ln z N v a):TVR P κ ln z' N v a:=by
 cases v <;> simp only [Abs.tied,Bool.false_eq_true] at ht
 ·cases h with | ptr _ _ q h1 h2=>exact .ptr _ _ q h1 h2
 ·cases h with
  | mw0 _ h1 h2=>exact .mw0 _ h1 h2
  | mw _ q h1 h2=>exact .mw _ q h1 h2
 ·cases h with | mp _ q h1 h2=>exact .mp _ q h1 h2
 ·cases h with
  | fw0 _ h1 h2=>exact .fw0 _ h1 h2
  | fw _ q h1 h2=>exact .fw _ q h1 h2
 ·cases h with | kp _ h1=>exact .kp _ h1
theorem Rel.thaw (R:Rel P κ ln z c s env h n) (ht:∀ x,tied (tlk c s x)=true∨tlk c s x = .un) {O:Nat→Prop} {μ:Mu} {w:World} (hr:HR w O μ h n) :
  ∃ μ' h2,Rel P κ ln ahN c { s with dy:=false } env h2 n∧HR w O μ' h2 n∧Evo w μ n w μ' n:=by
 obtain ⟨p,h2,hz,hbr,hn2,hr2⟩:=R.conv hr
 refine ⟨muP p μ,h2,⟨fun x=>?_,hbr,R.lt,R.inj,fun q B hq=>(by cases hq),fun _ _ _ _ _=>rfl,R.bnd,hn2,R.e0,R.g,fun _=>rfl,fun q k T es hq=>(by cases hq),R.famD⟩,hr2,kjT hr p⟩
 have hx:=R.env x
 show TVR P κ ln ahN s.n (tlk c s x) (lk env x)
 rcases ht x with h1 | h1
 ·exact hx.tied h1
 ·rw [h1]; exact .un _
theorem HC.fin {f:FuncId} {args:List AV} {K:K3} (hc:HC P f args h n (fun v h' n'=>(∃ h2:AH,(∀ q B,h2 q=some B→h' q=some B)∧K v h2 n')∨
  (v = .tp []∧∃ κ ln z c s env,Rel P κ ln z c s env h' n'∧(∀ x,tied (tlk c s x)=true∨tlk c s x = .un)∧∀ h2:AH,Rel P κ ln ahN c { s with dy:=false } env h2 n'→∃ h3:AH,(∀ q B,h3 q=some B→h2 q=some B)∧K v h3 n'))):HC P f args h n K:=by
 refine ⟨hc.1,fun O μ w vs hr hs hv=>(hc.2 O μ w vs hr hs hv).mono ?_⟩
 rintro e w' ⟨u,v,h',n',μ',rfl,hor,q2,q3,q4⟩
 rcases hor with ⟨h2,q0,q1⟩ | ⟨rfl,κ,ln,z,c,s,env,R,ht,hk⟩
 ·exact ⟨u,v,h2,n',μ',rfl,q1,⟨q2.olt,q2.scope,q2.inj,q2.notO,fun id B hB=>q2.blk id B (q0 id B hB)⟩,q3,q4⟩
 ·obtain ⟨μ2,h2,R2,r2,e2⟩:=R.thaw ht q2
  obtain ⟨h3,q0,q1⟩:=hk h2 R2
  exact ⟨u,_,h3,n',μ2,rfl,q1,⟨r2.olt,r2.scope,r2.inj,r2.notO,fun id B hB=>r2.blk id B (q0 id B hB)⟩,q3.flat (.tp [] fun j c hj=>by simp at hj) _ _ _ _,q4.trans e2⟩
end
end Go.Abs
namespace Go.Abs
open Go Go.RowKit
section
variable {P:Program} {κ κ':Nat→Option Nat} {ln ln':Nat→Nat} {z z':AH} {c:Cx sem} {s:TS sem} {env:Env} {h:AH} {n N N':Nat}
def tiedD:TV sem→Bool
 | .mw _ | .ptr _ _ | .mp _ | .fw _=>true
 | _=>false
theorem TVR.det {v:TV sem} {a a':AV} (ht:tiedD v=true) (h:TVR P κ ln z N v a) (h':TVR P κ' ln' z' N' v a') (hk:∀ id,v.has id=true→κ' id = κ id∧ln' id=ln id):a'=a:=by
 cases v <;> simp only [tiedD,Bool.false_eq_true] at ht
 ·rename_i id j
  obtain ⟨e1,e2⟩:=hk id (by simp [TV.has])
  obtain ⟨q,k1,rfl⟩:=h.ptr_inv
  obtain ⟨q',k2,rfl⟩:=h'.ptr_inv
  rw [e1,k1] at k2; cases k2; rfl
 ·rename_i id
  obtain ⟨e1,e2⟩:=hk id (by simp [TV.has])
  cases h with
  | mw0 _ _ k1=>cases h' with
   | mw0=>rfl
   | mw _ q _ k2=>rw [e1,k1] at k2; cases k2
  | mw _ q _ k1=>cases h' with
   | mw0 _ _ k2=>rw [e1,k1] at k2; cases k2
   | mw _ q' _ k2=>rw [e1,k1] at k2; cases k2; rw [e2]
 ·rename_i id
  obtain ⟨e1,e2⟩:=hk id (by simp [TV.has])
  obtain ⟨q,k1,rfl⟩:=h.mp_inv
  obtain ⟨q',k2,rfl⟩:=h'.mp_inv
  rw [e1,k1] at k2; cases k2; rfl
 ·rename_i id
  obtain ⟨e1,e2⟩:=hk id (by simp [TV.has])
  cases h with
  | fw0 _ _ k1=>cases h' with
   | fw0=>rfl
   | fw _ q _ k2=>rw [e1,k1] at k2; cases k2
  | fw _ q _ k1=>cases h' with
   | fw0 _ _ k2=>rw [e1,k1] at k2; cases k2
   | fw _ q' _ k2=>rw [e1,k1] at k2; cases k2; rw [e2]
theorem kjy:∀ (ks:List (Option Ty)) {l:List ((t:Ty)×t.den)} {as:List AV} (k:Nat),PArgs P ks l as→∀ x v,alk (kbc (A:=sem) ks l k) x=some v→k≤x∧TVR P κ ln z N v (lk ((as.zipIdx k).map fun (v,i)=>(i,v)) x)
 | [],l,as,k,h,x,v,hv=>by simp [kbc,alk] at hv
 | some t::ks,[],as,k,h,x,v,hv=>by simp [kbc,alk] at hv
 | some t::ks,p::l,[],k,h,x,v,hv=>by simp [PArgs] at h
 | none::ks,l,[],k,h,x,v,hv=>by cases l <;> simp [PArgs] at h
 | some t::ks,p::l,a::as,k,h,x,v,hv=>by
  obtain ⟨h1,h2⟩:=h
  simp only [kbc,alk] at hv
  simp only [List.zipIdx_cons,List.map_cons,lk]
  by_cases e:x=k
  ·rw [if_pos e] at hv; cases hv
   rw [if_pos e]
   refine ⟨by omega,?_⟩
   obtain ⟨t,y⟩:=p
   cases t <;> first | exact .cv _ _ _ _ _ h1 | (obtain ⟨hd,rfl⟩:=h1; exact .c _ _ _ hd (.free _ (kgz _ _ hd)))
  ·rw [if_neg e] at hv
   rw [if_neg e]
   obtain ⟨g1,g2⟩:=kjy ks (k+1) h2 x v hv
   exact ⟨by omega,g2⟩
 | none::ks,l,a::as,k,h,x,v,hv=>by
  have h2:PArgs P ks l as:=by cases l <;> exact h
  simp only [kbc] at hv
  simp only [List.zipIdx_cons,List.map_cons,lk]
  obtain ⟨g1,g2⟩:=kjy ks (k+1) h2 x v hv
  rw [if_neg (by omega)]
  exact ⟨by omega,g2⟩
theorem kjo:∀ (ks:List (Option Ty)) (k x:Nat),x∈kdS ks k→x<k+ks.length
 | [],k,x,h=>by cases h
 | some t::ks,k,x,h=>by
  simp only [kdS,List.mem_cons] at h
  simp only [List.length_cons]
  rcases h with rfl | h
  ·omega
  ·have:=kjo ks (k+1) x h; omega
 | none::ks,k,x,h=>by
  simp only [kdS] at h
  simp only [List.length_cons]
  have:=kjo ks (k+1) x h; omega
theorem kqv:∀ (as:List AV) (k x:Nat),k+as.length≤x→lk ((as.zipIdx k).map fun (v,i)=>(i,v)) x = .un
 | [],k,x,h=>rfl
 | a::as,k,x,h=>by
  simp only [List.length_cons] at h
  simp only [List.zipIdx_cons,List.map_cons,lk]
  rw [if_neg (by omega),kqv as (k+1) x (by omega)]
theorem ksj {as:List AV} {x:Nat} (h:as.length≤x):lk (kat as) x = .un:=kqv as 0 x (by omega)
theorem kfG:∀ (ks:List (Option Ty)) {l:List ((t:Ty)×t.den)} (k:Nat),l.length=(ks.filterMap id).length→(kbc (A:=sem) ks l k).map (·.1)=kdS ks k
 | [],l,k,h=>by simp [kbc,kdS]
 | some t::ks,[],k,h=>by simp at h
 | some t::ks,p::l,k,h=>by simp only [kbc,kdS,List.map_cons]; rw [kfG ks (k+1) (by simpa using h)]
 | none::ks,l,k,h=>by simp only [kbc,kdS]; exact kfG ks (k+1) (by simpa using h)
theorem kjK:∀ {ks:List (Option Ty)} {l:List ((t:Ty)×t.den)} {as:List AV},PArgs P ks l as→as.length=ks.length
 | [],[],[],h=>rfl
 | [],_::_,_,h=>by simp [PArgs] at h
 | [],[],_::_,h=>by simp [PArgs] at h
 | some t::ks,[],as,h=>by simp [PArgs] at h
 | some t::ks,p::l,[],h=>by simp [PArgs] at h
 | none::ks,l,[],h=>by cases l <;> simp [PArgs] at h
 | some t::ks,p::l,a::as,h=>by simp [kjK h.2]
 | none::ks,l,a::as,h=>by
  have h2:PArgs P ks l as:=by cases l <;> exact h
  simp [kjK h2]
theorem kqB:∀ (l:List (Nat×PV)) (xs:List ((t:Ty)×t.den)),(unE (A:=sem) l xs).1.map (·.1)=l.map (·.1)
 | [],xs=>rfl
 | (k,v)::l,xs=>by simp only [unE,List.map_cons]; rw [kqB l]
theorem kfN {α:Type}:∀ {l:List (Nat×α)} {x:Nat} {v:α},(l.map (·.1)).Nodup→(x,v)∈l→alk l x=some v
 | [],x,v,_,h=>by cases h
 | (k,w)::l,x,v,hn,h=>by
  simp only [List.map_cons,List.nodup_cons] at hn
  simp only [alk]
  rcases List.mem_cons.1 h with h | h
  ·cases h; simp
  ·rw [if_neg]
   ·exact kfN hn.2 h
   ·exact fun e=>hn.1 (List.mem_map.2 ⟨(x,v),h,e⟩)
theorem khB (R:Rel P κ ln z c s env h n):∀ (l:List ResultVar) {vs:List (TV sem)},resTV (A:=sem) P c s l=some vs→∃ as,l.mapM (kcl P h env)=some as∧TVRs P κ ln z s.n vs as
 | [],vs,hr=>by simp only [resTV,Option.some.injEq] at hr; subst hr; exact ⟨[],rfl,.nil⟩
 | .tmp t::l,vs,hr=>by
  simp only [resTV,Option.map_eq_some_iff] at hr
  obtain ⟨vs,hv,rfl⟩:=hr
  obtain ⟨as,h1,h2⟩:=khB R l hv
  refine ⟨lk env t::as,?_,.cons _ _ _ _ (R.env t) h2⟩
  rw [List.mapM_cons,h1]; rfl
 | .cell a T::l,vs,hr=>by
  simp only [resTV,Option.bind_eq_some_iff,Option.map_eq_some_iff] at hr
  obtain ⟨v,hc,vs,hv,rfl⟩:=hr
  obtain ⟨as,h1,h2⟩:=khB R l hv
  obtain ⟨u,hu,huv⟩:=kks R hc
  refine ⟨u::as,?_,.cons _ _ _ _ huv h2⟩
  rw [List.mapM_cons,h1,hu]; rfl
theorem kpm {l:List ResultVar} {as:List AV} (h1:l.mapM (kcl P h env)=some as):kaZ P h env l=some (tpA as):=by
 unfold kaZ tpA
 rw [h1]
 match as with
 | []=>rfl
 | [a]=>rfl
 | _::_::_=>rfl
theorem koj:∀ (vs:List (TV sem)) (k x:Nat) (E:List (Nat×TV sem)),alk ((vs.zipIdx k).map (fun x=>(1000000+x.2,x.1))++E) x=if 1000000+k≤x∧x<1000000+k+vs.length then vs[x-1000000-k]? else alk E x
 | [],k,x,E=>by
  simp only [List.zipIdx_nil,List.map_nil,List.nil_append,List.length_nil]
  rw [if_neg (by omega)]
 | v::vs,k,x,E=>by
  simp only [List.zipIdx_cons,List.map_cons,List.cons_append,alk,List.length_cons]
  by_cases e:x=1000000+k
  ·rw [if_pos e,if_pos (by omega),show x-1000000-k=0 by omega]; rfl
  ·rw [if_neg e,koj vs (k+1) x E]
   by_cases e2:1000000+k≤x∧x<1000000+k+(vs.length+1)
   ·rw [if_pos (by omega),if_pos e2,show x-1000000-k=(x-1000000-(k+1))+1 by omega,List.getElem?_cons_succ]
   ·rw [if_neg (by omega),if_neg e2]
theorem kjS:∀ (as:List AV) (k x:Nat) (E:Env),lk ((as.zipIdx k).map (fun x=>(1000000+x.2,x.1))++E) x=if 1000000+k≤x∧x<1000000+k+as.length then (as[x-1000000-k]?).getD .un else lk E x
 | [],k,x,E=>by
  simp only [List.zipIdx_nil,List.map_nil,List.nil_append,List.length_nil]
  rw [if_neg (by omega)]
 | v::vs,k,x,E=>by
  simp only [List.zipIdx_cons,List.map_cons,List.cons_append,lk,List.length_cons]
  by_cases e:x=1000000+k
  ·rw [if_pos e,if_pos (by omega),show x-1000000-k=0 by omega]; rfl
  ·rw [if_neg e,kjS vs (k+1) x E]
   by_cases e2:1000000+k≤x∧x<1000000+k+(vs.length+1)
   ·rw [if_pos (by omega),if_pos e2,show x-1000000-k=(x-1000000-(k+1))+1 by omega,List.getElem?_cons_succ]
   ·rw [if_neg (by omega),if_neg e2]
theorem kky {α:Type}:∀ (l:List (Nat×α)) (x:Nat),alk (l.map fun y=>(y.1,some y.2)) x=(alk l x).map some
 | [],x=>rfl
 | (k,v)::l,x=>by
  simp only [List.map_cons,alk]
  split
  ·rfl
  ·exact kky l x
theorem ksV (R:Rel P κ ln ahN c s env h n) {vs:List (TV sem)} {as:List AV} (hv:TVRs P κ ln ahN s.n vs as):Rel P κ ln ahN ⟨[],[]⟩ (endM c s vs) (resE as++env) h n:=by
 have ht:∀ id,thp (⟨[],[]⟩:Cx sem) (endM c s vs) id=thp c s id:=fun id=>by
  unfold thp endM
  simp only [kbb,kky]
  cases h1:alk s.hp id with
  | some b=>rfl
  | none=>cases h2:alk c.g id <;> simp [alk]
 refine ⟨fun x=>?_,fun id B hB=>R.blk id B (ht id ▸ hB),fun id B hB=>R.lt id B (ht id ▸ hB),fun i j B B' q hi hj=>R.inj i j B B' q (ht i ▸ hi) (ht j ▸ hj),R.zin,fun id B q hB=>R.zout id B q (ht id ▸ hB),fun id B q hB=>R.bnd id B q (ht id ▸ hB),R.hn,fun x v hx=>rfl,fun id b hb=>rfl,fun _=>rfl,fun q k T es hq=>(by cases hq),R.fam.map (fun id B hB=>.inl ⟨B,ht id ▸ hB,fun h=>h,rfl,rfl⟩) (fun id _ B r _ h1 h2 h3=>((R.fam id B h1 h2).2 r h3).2.1) (Nat.le_refl _)⟩
 have e1:tlk (⟨[],[]⟩:Cx sem) (endM c s vs) x=if 1000000+0≤x∧x<1000000+0+vs.length then (vs[x-1000000-0]?).getD .un else tlk c s x:=by
  have e0:alk (endM c s vs).env x=if 1000000+0≤x∧x<1000000+0+vs.length then vs[x-1000000-0]? else alk (s.env++c.e0) x:=koj vs 0 x _
  unfold tlk
  rw [e0]
  split
  ·rename_i v hv
   split at hv
   ·rename_i hc; rw [if_pos hc,hv]; rfl
   ·rename_i hc
    rw [if_neg hc]
    rw [kbb] at hv
    cases h1:alk s.env x with
    | some w=>rw [h1] at hv; cases hv; rfl
    | none=>rw [h1] at hv; simp only at hv; simp [hv]
  ·rename_i hv
   split at hv
   ·rename_i hc; rw [if_pos hc,hv]; rfl
   ·rename_i hc
    rw [if_neg hc]
    rw [kbb] at hv
    cases h1:alk s.env x with
    | some w=>rw [h1] at hv; cases hv
    | none=>rw [h1] at hv; simp only at hv; simp [hv,alk]
 show TVR P κ ln ahN (endM c s vs).n _ (lk ((as.zipIdx 0).map (fun x=>(1000000+x.2,x.1))++env) x)
 rw [e1,kjS,hv.len]
 split
 ·rename_i hx
  cases hh:vs[x-1000000-0]? with
  | none=>exact .un _
  | some v=>
   obtain ⟨a,ha,hva⟩:=hv.at hh
   rw [ha]; exact hva
 ·exact R.env x
theorem kpG {ρ:Ty} {r:ρ.den} {p:Prop} (hk:askR (A:=sem) (ρ:=ρ) c s=some r):p:=kaa hk
theorem kcM {g:FuncId} {C:CtrM} {f:Func} (hf:P.funcs[g]?=some f) (hd:(C.okS&&C.ks.length≤f.ntmps&&!(f.name== "runtime.NumGoroutine"))=true) {An:List (Nat×La)} (Δ:List (FuncId×Ctr)) (hΔ:Goods P Δ)
  (he:∀ x,C.F x=krA P Δ (anL An) f C (A:=sem) x) (hM0:(alk Δ IM).isNone=true:=by rfl):C.ok=true∧GoodM P g C:=by
 simp only [Bool.and_eq_true,Bool.not_eq_true',decide_eq_true_eq] at hd
 obtain ⟨⟨h1,h2⟩,h3⟩:=hd
 unfold CtrM.okS at h1
 simp only [Bool.and_eq_true,decide_eq_true_eq] at h1
 obtain ⟨⟨⟨⟨hnd,hik⟩,hok⟩,hinnd⟩,hout⟩:=h1
 refine ⟨hok,fun x y hy l1 l2 hl hl1 κ ln h n args hpa R=>?_⟩
 rw [he,krA] at hy
 dsimp only at hy
 rw [hl,List.take_left' hl1,List.drop_left' hl1] at hy
 have hal:=kjK hpa
 split at hy
 ·exact kaa hy
 ·rename_i body hb
  have hkeys:(kbc (A:=sem) C.ks l1 0++(kak (A:=sem) C.inp C.n0 l2).env).map (·.1)=kdS C.ks 0++C.inp.env.map (·.1):=by
   rw [List.map_append,kfG C.ks 0 hl1]
   congr 1
   exact kqB _ _
  have hnd0:((kbc (A:=sem) C.ks l1 0++(kak (A:=sem) C.inp C.n0 l2).env).map (·.1)).Nodup:=by rw [hkeys]; exact hnd
  have hnd1:(((kak (A:=sem) C.inp C.n0 l2).env).map (·.1)).Nodup:=by
   rw [List.map_append] at hnd0
   exact (List.nodup_append.1 hnd0).2.1
  have halk:∀ x v,alk (kak (A:=sem) C.inp C.n0 l2).env x=some v→alk (kbc (A:=sem) C.ks l1 0) x=none:=fun x v hv=>by
   cases hp:alk (kbc (A:=sem) C.ks l1 0) x with
   | none=>rfl
   | some w=>
    have h1:=kfN hnd0 (List.mem_append.2 (.inl (kar hp)))
    have h2:=kfN hnd0 (List.mem_append.2 (.inr (kar hv)))
    rw [List.map_append,List.nodup_append] at hnd0
    exact absurd rfl (hnd0.2.2 x (List.mem_map.2 ⟨_,kar hp,rfl⟩) x (List.mem_map.2 ⟨_,kar hv,rfl⟩))
  let ef:List (Nat×TV sem):=(kak (A:=sem) C.inp C.n0 l2).env.filter (fun x=>(alk C.out.env x.1).isSome)
  let eg:List (Nat×TV sem):=C.inn.map (fun p=>(7000000+p,.kp p))
  let e0:List (Nat×TV sem):=ef++eg
  let e1:List (Nat×TV sem):=kbc (A:=sem) C.ks l1 0++(kak (A:=sem) C.inp C.n0 l2).env.filter (fun x=>!(alk C.out.env x.1).isSome)
  have hef:∀ x,alk ef x=if (alk C.out.env x).isSome then alk (kak (A:=sem) C.inp C.n0 l2).env x else none:=fun x=>kcA (fun k=>(alk C.out.env k).isSome) _ x
  have he1:∀ x,alk ((kak (A:=sem) C.inp C.n0 l2).env.filter (fun x=>!(alk C.out.env x.1).isSome)) x=if !(alk C.out.env x).isSome then alk (kak (A:=sem) C.inp C.n0 l2).env x else none:=fun x=>kcA (fun k=>!(alk C.out.env k).isSome) _ x
  have he0:∀ x,alk e0 x=match alk ef x with | some v=>some v | none=>alk eg x:=fun x=>by
   show alk (ef++eg) x=_
   rw [kbb]
   cases alk ef x <;> rfl
  have hkl:C.ks.length≤1000000:=by
   unfold CtrM.ok at hok
   simp only [Bool.and_eq_true,decide_eq_true_eq] at hok
   exact hok.1.2
  have hklt:∀ x v,alk (kak (A:=sem) C.inp C.n0 l2).env x=some v→x<C.ks.length:=fun x v hv=>by
   have e:(alk (unE (A:=sem) C.inp.env l2).1 x).isSome=(alk C.inp.env x).isSome:=kgZ _ _ _
   have e2:alk (unE (A:=sem) C.inp.env l2).1 x=some v:=hv
   rw [e2] at e
   obtain ⟨pv2,hpv2⟩:=Option.isSome_iff_exists.1 e.symm
   exact of_decide_eq_true (List.all_eq_true.1 hik _ (kar hpv2))
  have hgh:∀ x v,alk eg x=some v→∃ p∈C.inn,x=7000000+p∧v = .kp p:=fun x v hv=>by
   obtain ⟨p,hp,e⟩:=List.mem_map.1 (kar hv)
   cases e; exact ⟨p,hp,rfl,rfl⟩
  have hgs:∀ p∈C.inn,alk eg (7000000+p)=some (.kp p):=fun p hp=>by
   refine kfN ?_ (List.mem_map.2 ⟨p,hp,rfl⟩)
   show ((C.inn.map (fun p=>(7000000+p,(TV.kp p:TV sem)))).map (·.1)).Nodup
   rw [List.map_map,List.nodup_iff_pairwise_ne,List.pairwise_map]
   exact (List.nodup_iff_pairwise_ne.1 hinnd).imp fun hne e=>hne (by simp only [Function.comp] at e; omega)
  have hinlt:∀ p∈C.inn,p<C.n0:=fun p hp=>by
   unfold CtrM.inn at hp
   obtain ⟨x,hx,rfl⟩:=List.mem_map.1 hp
   unfold CtrM.ok at hok
   simp only [Bool.and_eq_true,decide_eq_true_eq] at hok
   exact of_decide_eq_true (List.all_eq_true.1 hok.2 _ (List.mem_filter.1 hx).1)
  have hefn:∀ x,1000000≤x→alk ef x=none:=fun x hx=>by
   rw [hef]; split
   ·cases hh:alk (kak (A:=sem) C.inp C.n0 l2).env x with
    | none=>rfl
    | some v=>have:=hklt x v hh; omega
   ·rfl
  have W0:CxWf (⟨e0,[]⟩:Cx sem):=⟨fun x v hx=>by
   rw [he0]
   rcases List.mem_append.1 hx with hx | hx
   ·have e:alk ef x=some v:=by
     rw [hef]
     obtain ⟨h1,h2⟩:=List.mem_filter.1 hx
     rw [if_pos h2]
     exact kfN hnd1 h1
    rw [e]
   ·obtain ⟨p,hp,e⟩:=List.mem_map.1 hx
    cases e
    rw [hefn _ (by omega)]
    exact hgs p hp,fun x B hx=>by cases hx⟩
  have R0:Rel P κ ln ahN ⟨e0,[]⟩ ⟨e1,(kak (A:=sem) C.inp C.n0 l2).hp,C.n0,false⟩ (kat args) h n:=by
   refine ⟨fun x=>?_,R.blk,R.lt,R.inj,R.zin,R.zout,R.bnd,R.hn,fun x v hx=>?_,fun id b hb=>rfl,fun _=>rfl,R.zk,R.fam.map (fun id B hB=>.inl ⟨B,hB,fun h=>h,rfl,rfl⟩) (fun id _ B r _ h1 h2 h3=>((R.fam id B h1 h2).2 r h3).2.1) (Nat.le_refl _)⟩
   ·have hx:=R.env x
    unfold tlk at hx ⊢
    simp only [alk] at hx ⊢
    rw [show (offD (kak (A:=sem) C.inp C.n0 l2)).env=(kak (A:=sem) C.inp C.n0 l2).env from rfl] at hx
    have e1a:alk e1 x=_:=kbb (kbc (A:=sem) C.ks l1 0) _ x
    rw [e1a,he0,hef,he1]
    cases h1:alk (kbc (A:=sem) C.ks l1 0) x with
    | some v=>exact (kjy C.ks 0 hpa x v h1).2
    | none=>
     cases h2:alk (kak (A:=sem) C.inp C.n0 l2).env x with
     | some v=>
      rw [h2] at hx
      cases (alk C.out.env x).isSome with
      | true=>exact hx
      | false=>exact hx
     | none=>
      have:TVR P κ ln ahN C.n0 ((alk eg x).getD .un) (lk (kat args) x):=by
       cases hg:alk eg x with
       | none=>exact .un _
       | some w=>
        obtain ⟨p,hp,ex,rfl⟩:=hgh x w hg
        rw [ksj (by omega:args.length≤x)]
        exact .kp p (hinlt p hp)
      cases (alk C.out.env x).isSome with
      | true=>exact this
      | false=>exact this
   ·have hx:alk (kbc (A:=sem) C.ks l1 0++(kak (A:=sem) C.inp C.n0 l2).env.filter (fun x=>!(alk C.out.env x.1).isSome)) x=some v:=hx
    rw [kbb,he1] at hx
    show alk e0 x=none
    have hxlt:x<C.ks.length:=by
     cases h1:alk (kbc (A:=sem) C.ks l1 0) x with
     | some w=>
      have:x∈(kbc (A:=sem) C.ks l1 0).map (·.1):=List.mem_map.2 ⟨_,kar h1,rfl⟩
      rw [kfG C.ks 0 hl1] at this
      have:=kjo C.ks 0 x this
      omega
     | none=>
      rw [h1] at hx
      simp only at hx
      split at hx
      ·exact hklt x v hx
      ·cases hx
    have hgn:alk eg x=none:=by
     cases hg:alk eg x with
     | none=>rfl
     | some w=>obtain ⟨p,_,e,_⟩:=hgh x w hg; omega
    rw [he0,hgn,hef]
    cases hc:(alk C.out.env x).isSome with
    | false=>simp
    | true=>
     rw [hc] at hx
     simp only [Bool.not_true,Bool.false_eq_true,if_false] at hx
     simp only [if_true]
     cases h2:alk (kak (A:=sem) C.inp C.n0 l2).env x with
     | none=>rfl
     | some w=>rw [halk x w h2] at hx; cases hx
  refine HC.fin (HC.of_body hf hb h3 (by rw [hal]; exact h2) fun D O hD=>Sat.ofL ?_)
  have fin:∀ (rl:List ResultVar) (c:Cx sem) κ' ln' s env' h' n' v,CxWf c→RJ ⟨e0,κ,ln⟩ P κ' ln' ahN c s env' h' n'→resM (A:=sem) P C rl c s=some v→
    ∃ a,kaZ P h' env' rl=some a∧∃ h2:AH,(∀ q B,h2 q=some B→h' q=some B)∧kgQ P C κ ln v args a h2 n':=by
   intro rl c κ' ln' s env' h' n' v W RR hv
   unfold resM at hv
   obtain ⟨vs,hvs,hv⟩:=Option.bind_eq_some_iff.1 hv
   split at hv
   ·rename_i hlen
    obtain ⟨m,hm,hv⟩:=Option.bind_eq_some_iff.1 hv
    by_cases hsn':(m.sn.isEmpty&&C.inn.all (fun p=>alk m.ids p==some p))=true
    ·replace hv:mkT sem C.out.tys m.cs=some v:=(if_pos (c:=(m.sn.isEmpty&&C.inn.all (fun p=>alk m.ids p==some p))=true) (t:=(mkT sem C.out.tys m.cs:Option C.out.ty.den)) (e:=none) hsn').symm.trans hv
     rw [Bool.and_eq_true] at hsn'
     obtain ⟨hsn,hinm⟩:=hsn'
     obtain ⟨as,k1,k2⟩:=khB RR.R rl hvs
     obtain ⟨κ2,ln2,R2,q1,q2,q3,q4⟩:=kmV (ksV RR.R k2) hm (by simpa [List.isEmpty_iff] using hsn) rfl
     have hum:kak (A:=sem) C.out C.n1 m.cs=kad (A:=sem) C.out C.n1 v:=by
      unfold kad kak
      rw [kmd _ _ _ hv]
     rw [hum] at R2 q2 q4
     have bkey:∀ id,id∈C.out.hp.map (·.1)↔(alk C.out.hp id).isSome=true:=fun id=>by
      generalize C.out.hp=L
      induction L with
      | nil=>simp [alk]
      | cons y L ih=>
       simp only [List.map_cons,List.mem_cons,alk]
       split
       ·rename_i e; simp [e]
       ·rename_i e; simp only [e,false_or]; exact ih
     have liv:∀ {id},id∈C.out.hp.map (·.1)→∃ B,alk (kad (A:=sem) C.out C.n1 v).hp id=some (some B):=fun {id} hi=>by
      rw [bkey,←q4] at hi
      obtain ⟨b,hb⟩:=Option.isSome_iff_exists.1 hi
      obtain ⟨B,_,_,rfl,_⟩:=q2 id b hb
      exact ⟨B,hb⟩
     have inb:∀ id B,thp (⟨[],[]⟩:Cx sem) (offD (kad (A:=sem) C.out C.n1 v)) id=some B→id∈C.out.hp.map (·.1):=fun id B hB=>by
      rw [bkey,←q4]
      unfold thp at hB
      rw [show (offD (kad (A:=sem) C.out C.n1 v)).hp=(kad (A:=sem) C.out C.n1 v).hp from rfl] at hB
      cases hh:alk (kad (A:=sem) C.out C.n1 v).hp id with
      | some b=>rfl
      | none=>rw [hh] at hB; cases hB
     have R3:=R2.cut (h2:=hz (ows κ2 ln2 ⟨[],[]⟩ (offD (kad (A:=sem) C.out C.n1 v))) h' ahN (C.out.hp.map (·.1))) (fun id B q hB hk=>hz_in (inb id B hB) (kjq hB hk)) (fun q hq=>by
      unfold hz; split
      ·exact RR.R.hn q hq
      ·rfl)
     refine ⟨_,kpm k1,_,kcY (fun q B hq=>(by cases hq)),κ2,ln2,as,by rw [k2.len,hlen],rfl,⟨fun x=>?_,R3.blk,R3.lt,R3.inj,R3.zin,R3.zout,R3.bnd,R3.hn,R3.e0,R3.g,R3.dy,R3.zk,R3.fam⟩,fun q B hq=>?_,fun p hp=>?_⟩
     ·have hx:=R3.env x
      cases hpx:alk (kad (A:=sem) C.out C.n1 v).env x with
      | none=>
       have:tlk (⟨[],[]⟩:Cx sem) (offD (kad (A:=sem) C.out C.n1 v)) x = .un:=by
        unfold tlk
        rw [show (offD (kad (A:=sem) C.out C.n1 v)).env=(kad (A:=sem) C.out C.n1 v).env from rfl,hpx]; rfl
       rw [this]; exact .un _
      | some w=>
       obtain ⟨pv,hpv⟩:=kmf hpx
       have ho:=List.all_eq_true.1 hout _ hpv
       have el1:lk (resE as++env') x=if 1000000+0≤x∧x<1000000+0+as.length then (as[x-1000000-0]?).getD .un else lk env' x:=kjS as 0 x env'
       have el2:lk (resE as++kat args) x=if 1000000+0≤x∧x<1000000+0+as.length then (as[x-1000000-0]?).getD .un else lk (kat args) x:=kjS as 0 x (kat args)
       have heq:lk (resE as++kat args) x=lk (resE as++env') x:=by
        rw [el1,el2]
        split
        ·rfl
        ·rename_i hnr
         simp only [Bool.or_eq_true,Bool.and_eq_true,decide_eq_true_eq] at ho
         rcases ho with ho | ⟨ho1,ho2⟩
         ·exfalso; apply hnr; rw [k2.len,hlen]; omega
         ·
          have slot:∀ pv0 v0,alk C.inp.env x=some pv0→(∀ xs:List ((t:Ty)×sem.D t),(unV (A:=sem) pv0 xs).1=v0)→tiedD v0=true→lk (kat args) x=lk env' x:=fun pv0 v0 hi hu ht=>by
           have hu1:alk (kak (A:=sem) C.inp C.n0 l2).env x=some v0:=kjI C.inp.env l2 x pv0 v0 hi hu
           have hj:alk e0 x=some v0:=by
            have ho1:(alk C.out.env x).isSome=true:=by
             have e:=kgZ C.out.env (unT sem C.out.tys v) x
             have e2:alk (unE (A:=sem) C.out.env (unT sem C.out.tys v)).1 x=some w:=hpx
             rw [←e,e2]; rfl
            rw [he0,hef,if_pos ho1,hu1]
           have t1:=R0.env x
           have t2:=RR.R.env x
           rw [R0.e0_tlk hj] at t1
           rw [RR.R.e0_tlk (RR.w x v0 hj)] at t2
           exact (t1.det ht t2 fun id hid=>RR.j x v0 id hj hid).symm
          split at ho2
          ·rename_i p hi; exact slot _ (.mw p) hi (fun xs=>rfl) rfl
          ·rename_i p j hi; exact slot _ (.ptr p j) hi (fun xs=>rfl) rfl
          ·rename_i p hi; exact slot _ (.mp p) hi (fun xs=>rfl) rfl
          ·cases ho2
       rw [heq]; exact hx
     ·unfold hz at hq
      split at hq
      ·rename_i hany
       obtain ⟨id,hid,hk⟩:=List.any_eq_true.1 hany
       obtain ⟨b,hb⟩:=liv hid
       exact ⟨id,b,hb,kct (c:=⟨[],[]⟩) (s:=offD (kad (A:=sem) C.out C.n1 v)) (by unfold thp; rw [show (offD (kad (A:=sem) C.out C.n1 v)).hp=(kad (A:=sem) C.out C.n1 v).hp from rfl,hb]) (by simpa using hk)⟩
      ·cases hq
     ·have e1:alk m.ids p=some p:=by simpa using List.all_eq_true.1 hinm p hp
      have e2:alk e0 (7000000+p)=some (.kp p):=by rw [he0,hefn _ (by omega)]; exact hgs p hp
      exact ⟨((q1 p p e1).1).trans (RR.j _ _ p e2 (by simp [TV.has])).1,((q1 p p e1).2.1).trans (RR.j _ _ p e2 (by simp [TV.has])).2⟩
    ·replace hv:=(if_neg (c:=(m.sn.isEmpty&&C.inn.all (fun p=>alk m.ids p==some p))=true) (t:=(mkT sem C.out.tys m.cs:Option C.out.ty.den)) (e:=none) hsn').symm.trans hv; cases hv
   ·cases hv
  let K0:K3:=fun v h' n'=>(∃ h2:AH,(∀ q B,h2 q=some B→h' q=some B)∧kgQ P C κ ln y args v h2 n')∨
   (v = .tp []∧∃ κb lnb z c s env,Rel P κb lnb z c s env h' n'∧(∀ x,tied (tlk c s x)=true∨tlk c s x = .un)∧∀ h2:AH,Rel P κb lnb ahN c { s with dy:=false } env h2 n'→∃ h3:AH,(∀ q B,h3 q=some B→h2 q=some B)∧kgQ P C κ ln y args v h3 n')
  refine kiH (D:=D) (O:=O) hΔ 1000000 (J:=⟨e0,κ,ln⟩) (RetQ:=fun v st=>∃ a,kaZ P st.h st.env f.results.toList=some a∧∃ h2:AH,(∀ q B,h2 q=some B→st.h q=some B)∧kgQ P C κ ln v args a h2 st.n) (fun c κ' ln' s env' h' n' v W RR hv=>fin _ c κ' ln' s env' h' n' v W RR hv) (hY:=⟨fun _=>hD,fun hh=>absurd hh (by cases hx:alk Δ IM with | none=>decide | some C=>rw [hx] at hM0; cases hM0)⟩) _ [body] _ _ _ y κ ln ahN (kat args) h n W0 ⟨R0,fun x v id _ _=>⟨rfl,rfl⟩,fun x v hv=>hv⟩ ?_ hy
  refine ⟨fun κ' ln' z' s env' h' n' RR hk=>?_,fun id κ ln z s env h n R hk=>kaa hk,fun v st hv hk=>?_,fun hi=>by rw [hD] at hi; cases hi⟩
  ·dsimp only at hk
   split at hk
   ·rename_i hemp
    have hr0:f.results.toList=[]:=by simpa [List.isEmpty_iff] using hemp
    split at hk
    ·rename_i v hv
     cases hk
     show ∃ v,kaZ P h' env' f.results.toList=some v∧K0 v h' n'
     rw [hr0]
     refine ⟨.tp [],rfl,.inr ⟨rfl,κ',ln',z',⟨e0,[]⟩,⟨[],s.hp,s.n,s.dy⟩,env',⟨fun x=>?_,RR.R.blk,RR.R.lt,RR.R.inj,RR.R.zin,RR.R.zout,RR.R.bnd,RR.R.hn,fun x v h=>(by cases h),RR.R.g,RR.R.dy,RR.R.zk,RR.R.fam.map (fun id B hB=>.inl ⟨B,hB,fun h=>h,rfl,rfl⟩) (fun id _ B r _ h1 h2 h3=>((RR.R.fam id B h1 h2).2 r h3).2.1) (Nat.le_refl _)⟩,fun x=>?_,fun h2 R2=>?_⟩⟩
     ·have hx:=RR.R.env x
      cases hc:alk e0 x with
      | none=>simp only [tlk,alk,hc]; exact .un _
      | some w=>
       rw [RR.R.e0_tlk hc] at hx
       simp only [tlk,alk,hc]; exact hx
     ·cases hc:alk e0 x with
      | none=>right; simp only [tlk,alk,hc]; rfl
      | some w=>
       left
       simp only [tlk,alk,hc,Option.getD_some]
       rw [he0] at hc
       split at hc
       ·rename_i w' hc'
        cases hc
        rw [hef] at hc'
        have ho1:(alk C.out.env x).isSome=true:=by
         cases hh:(alk C.out.env x).isSome with
         | true=>rfl
         | false=>rw [hh] at hc'; simp at hc'
        rw [if_pos ho1] at hc'
        have hc:=hc'
        obtain ⟨pv,hpv⟩:=Option.isSome_iff_exists.1 ho1
        have ho:=List.all_eq_true.1 hout _ (kar hpv)
        have hik':x<C.ks.length:=by
         have e:(alk (unE (A:=sem) C.inp.env l2).1 x).isSome=(alk C.inp.env x).isSome:=kgZ _ _ _
         have e2:alk (unE (A:=sem) C.inp.env l2).1 x=some w:=hc
         rw [e2] at e
         obtain ⟨pv2,hpv2⟩:=Option.isSome_iff_exists.1 e.symm
         exact of_decide_eq_true (List.all_eq_true.1 hik _ (kar hpv2))
        simp only [Bool.or_eq_true,Bool.and_eq_true,decide_eq_true_eq] at ho
        rcases ho with ho | ⟨ho1,ho2⟩
        ·omega
        ·have look:∀ pv0 v0,alk C.inp.env x=some pv0→(∀ xs:List ((t:Ty)×sem.D t),(unV (A:=sem) pv0 xs).1=v0)→w=v0:=fun pv0 v0 hi hu=>by
          have hu1:alk (kak (A:=sem) C.inp C.n0 l2).env x=some v0:=kjI C.inp.env l2 x pv0 v0 hi hu
          rw [hc] at hu1; exact Option.some.inj hu1
         split at ho2
         ·rename_i p hi; rw [look _ (.mw p) hi (fun xs=>rfl)]; rfl
         ·rename_i p j hi; rw [look _ (.ptr p j) hi (fun xs=>rfl)]; rfl
         ·rename_i p hi; rw [look _ (.mp p) hi (fun xs=>rfl)]; rfl
         ·cases ho2
       ·obtain ⟨p,_,_,rfl⟩:=hgh x _ hc; rfl
     ·obtain ⟨a,q1,q2⟩:=fin [] _ _ _ _ _ _ _ _ W0 ⟨R2,RR.j,RR.w⟩ hv
      cases q1
      exact q2
    ·exact kpG hk
   ·split at hk
    ·exact kaa hk
    ·rename_i hdy
     split at hk
     ·rename_i v hv
      cases hk
      obtain rfl:=RR.R.dy (by simpa using hdy)
      obtain ⟨a,q1,q2⟩:=fin _ _ _ _ _ _ _ _ _ W0 RR hv
      exact ⟨a,q1,.inl q2⟩
     ·exact kpG hk
  ·cases hk
   obtain ⟨a,q1,q2⟩:=hv
   exact ⟨a,q1,.inl q2⟩
end
end Go.Abs
namespace Go.Abs
open Go Go.RowKit
section
variable {P:Program} {g:FuncId}
theorem Good.more {C:Ctr} {M:CtrM} (h:Good P g C) (hm:M.ok=true∧GoodM P g M):Good P g ⟨C.nm,C.as,C.rs,C.F,M::C.mus,C.its⟩:=by
 refine ⟨h.1,h.2.1,fun M' hM=>?_,h.2.2.2⟩
 rcases List.mem_cons.1 hM with rfl | hM
 ·exact hm
 ·exact h.2.2.1 M' hM
theorem good_dm {nm:String}:Good P g ⟨nm,[],[],fun _=>none,[],[]⟩:=⟨rfl,fun x r h=>(by cases h),fun M h=>(by cases h),fun M h=>(by cases h)⟩
theorem kiy {C:CtrM} (h1:C.ok=true) (h:∀ x,C.F x=none):C.ok=true∧GoodM P g C:=
 ⟨h1,fun x y hy=>by rw [h x] at hy; cases hy⟩
end
end Go.Abs
namespace Go.Abs
open Go Go.RowKit
section
variable {P:Program} {g:FuncId}
end
end Go.Abs
namespace Go.Abs
open Go
theorem kao {α:Type} {l:List α} {i:Nat} (h:i<l.length):gi l (i:Int)=some l[i]:=by rw [kua,List.getElem?_eq_getElem h]
theorem kni {i:Nat} (h:0<i) (hb:(i:Int)≤9223372036854775807):w64 ((i:Int)-1)=((i-1:Nat):Int):=by rw [kaN (by omega) (by omega)]; omega
end Go.Abs
namespace Go.Abs
open Go
theorem koB {α β:Type} {F:α→Option (α⊕β)}:∀ {n:Nat} {x:α} {z:β} (m:Nat),itN F n x=some z→itN F (n+m) x=some z
 | 0,x,z,m,h=>by simp [itN] at h
 | n+1,x,z,m,h=>by
  rw [Nat.succ_add]
  simp only [itN] at h ⊢
  split at h
  ·cases h
  ·rename_i y hy; rw [hy] at *; exact koB m h
  ·rename_i w hw; rw [hw] at *; exact h
theorem kfq {α β:Type} {F:α→Option (α⊕β)} {n:Nat} {x:α} {z:β} (h:itN F n x=some z) (hn:n≤18446744073709551616):iter F x=some z:=by
 unfold iter
 have:=koB (18446744073709551616-n) h
 rwa [show n+(18446744073709551616-n)=18446744073709551616 by omega] at this
theorem kcK {α β:Type} {F:α→Option (α⊕β)} {n:Nat} {x:α} {z:β} (h:F x=some (.inr z)):itN F (n+1) x=some z:=by simp [itN,h]
theorem kgM {α β:Type} {F:α→Option (α⊕β)} {n:Nat} {x y:α} (h:F x=some (.inl y)):itN F (n+1) x=itN F n y:=by simp [itN,h]
theorem kag {α:Type} (l:List α):lenI l=(l.length:Int):=rfl
theorem kal {i:Nat} (h:i<9223372036854775807):w64 ((i:Int)+1)=((i+1:Nat):Int):=by rw [kaN (by omega) (by omega)]; rfl
def endL {β:Type}:Option β→β⊕Unit
 | some b=>.inl b
 | none=>.inr ()
def nextL {β:Type} (i:Nat):Option β→Int⊕(β⊕Unit)
 | some b=>.inr (.inl b)
 | none=>.inl ((i+1:Nat):Int)
theorem kcD {α β:Type} {F:Int→Option (Int⊕(β⊕Unit))} (l:List α) (hl:l.length≤9223372036854775807) (f:Nat→α→Option β)
  (h1:∀ i,(hi:i<l.length)→F (i:Int)=some (nextL i (f i l[i]))) (h2:F (l.length:Int)=some (.inr (.inr ()))) :
  iter F 0=some (endL (l.zipIdx.findSome? fun x=>f x.2 x.1)):=by
 have:∀ k i:Nat,i+k=l.length→itN F (k+1) (i:Int)=some (endL (((l.drop i).zipIdx i).findSome? (fun x=>f x.2 x.1))):=by
  intro k
  induction k with
  | zero=>
   intro i h
   have:i=l.length:=by omega
   subst this
   rw [kcK h2,List.drop_length]; rfl
  | succ k ih=>
   intro i h
   have hi:i<l.length:=by omega
   rw [List.drop_eq_getElem_cons hi,List.zipIdx_cons,List.findSome?_cons]
   have e:=h1 i hi
   cases hf:f i l[i] with
   | some b=>rw [hf] at e; rw [kcK e]; rfl
   | none=>rw [hf] at e; rw [kgM e,ih (i+1) (by omega)]
 exact kfq (this l.length 0 (by omega)) (by omega)
theorem kfO {α:Type} {F:Int→Option (Int⊕(Bool⊕Unit))} (b:Bool) (l:List α) (hl:l.length≤9223372036854775807) (p:Nat→α→Bool)
  (h1:∀ i,(hi:i<l.length)→F (i:Int)=some (if p i l[i]=true then .inr (.inl b) else .inl ((i+1:Nat):Int))) (h2:F (l.length:Int)=some (.inr (.inr ()))) :
  iter F 0=some (if (l.zipIdx.any fun x=>p x.2 x.1)=true then .inl b else .inr ()):=by
 rw [kcD l hl (fun i x=>if p i x=true then some b else none) (fun i hi=>by rw [h1 i hi]; cases p i l[i] <;> rfl) h2]
 generalize l.zipIdx=L
 induction L with
 | nil=>rfl
 | cons x L ih=>
  rw [List.findSome?_cons,List.any_cons]
  cases hp:p x.2 x.1 with
  | true=>simp [endL]
  | false=>simp only [Bool.false_eq_true,if_false,Bool.false_or]; exact ih
theorem kcg {α:Type} {a b:List α} (h:a.length+b.length≤1048576):gapp a b=some (a++b):=by unfold gapp; rw [if_pos h]
end Go.Abs
namespace Go.Abs
open Go
def wi (lo hi n:Int):Bool:=decide (lo≤n)&&decide (n≤hi)
theorem wi_iff {lo hi n:Int}:wi lo hi n=true↔lo≤n∧n≤hi:=by unfold wi; simp
theorem kmC {α:Type} (q:α→Bool):∀ (l:List α) (k:Nat),((l.zipIdx k).any fun x=>q x.1)=l.any q
 | [],k=>rfl
 | x::l,k=>by rw [List.zipIdx_cons,List.any_cons,List.any_cons,kmC q l (k+1)]
theorem lenI_lt {α:Type} {l:List α} {i:Nat}:decide ((i:Int)<lenI l)=true↔i<l.length:=by rw [kag,decide_eq_true_eq]; omega
theorem kaH {α:Type} {l:List α}:¬ decide ((l.length:Int)<lenI l)=true:=by rw [lenI_lt]; omega
end Go.Abs
namespace Go.Abs
open Go Go.RowKit
inductive Sh where
 | int (k:IntKind)
 | bool
 | str
 | sl (e:Sh)
 | st (fs:List Sh)
def kfV (P:Program):List Field→Nat→Nat→Bool
 | [],o,n=>o==n
 | f::fs,o,n=>f.offset==o&&kfV P fs (o+P.cellsOf f.type) n
def shapeOf (P:Program):Nat→TypeId→Option Sh
 | 0,_=>none
 | d+1,t=>match P.underlying t with
  | some .bool=>some .bool
  | some (.int k)=>some (.int k)
  | some .string=>some .str
  | some (.slice e)=>if P.cellsOf e=0 then none else (shapeOf P d e).map .sl
  | some (.struct fs)=>if kfV P fs.toList 0 (P.cellsOf t) then (fs.toList.mapM fun f=>shapeOf P d f.type).map .st else none
  | some (.array n e)=>if n*P.cellsOf e=P.cellsOf t then (shapeOf P d e).map fun s=>.st (List.replicate n s) else none
  | _=>none
inductive Enc:Sh→List AV→Prop
 | int (k:IntKind) (n:Int) (h:(Lit.int k n).wf=true):Enc (.int k) [.sc (.int k n)]
 | bool (b:Bool):Enc .bool [.sc (.bool b)]
 | str (s:ByteArray) (h:s.size≤maxLen):Enc .str [.sc (.string s)]
 | sl (e:Sh) (es:List (List AV)) (h:∀ x∈es,Enc e x) (hl:es.length≤maxLen):Enc (.sl e) [.sl es]
 | nil:Enc (.st []) []
 | cons (s:Sh) (ss:List Sh) (a as:List AV) (h1:Enc s a) (h2:Enc (.st ss) as):Enc (.st (s::ss)) (a++as)
abbrev noO:Nat→Prop:=fun _=>False
def CR (w:World) (as:List AV) (cs:List Value):Prop:=
 as.length=cs.length∧∀ (j:Nat) (a:AV),as[j]?=some a→a.one=true∧∃ v,cs[j]?=some v∧VR w noO mu0 0 a v
theorem CR.nil {w:World}:CR w [] []:=⟨rfl,fun j a h=>by simp at h⟩
theorem CR.one {w:World} {a:AV} {v:Value} (h1:a.one=true) (h:VR w noO mu0 0 a v):CR w [a] [v]:=⟨rfl,fun j x hj=>by
 cases j with
 | zero=>simp at hj; subst hj; exact ⟨h1,v,rfl,h⟩
 | succ j=>simp at hj⟩
theorem CR.append {w:World} {as bs:List AV} {cs ds:List Value} (h:CR w as cs) (g:CR w bs ds):CR w (as++bs) (cs++ds):=by
 refine ⟨by simp [h.1,g.1],fun j a hj=>?_⟩
 rw [List.getElem?_append] at hj
 split at hj
 ·rename_i hlt
  obtain ⟨h1,v,h2,h3⟩:=h.2 j a hj
  exact ⟨h1,v,by rw [List.getElem?_append_left (by rw [←h.1]; exact hlt)]; exact h2,h3⟩
 ·rename_i hge
  obtain ⟨h1,v,h2,h3⟩:=g.2 _ a hj
  exact ⟨h1,v,by rw [List.getElem?_append_right (by rw [←h.1]; omega),←h.1]; exact h2,h3⟩
theorem noAv (b:Nat):¬ Av noO mu0 b:=by
 rintro (h | ⟨_,_,h⟩)
 ·exact h
 ·cases h
section
variable {H:Type} {enc:TypeId×Value→H} {P:Program} {w:World} {held:Bool}
theorem klT {d fuel:Nat} (ih:∀ (t:TypeId) (sh:Sh) (cs:List Value) (x:DataW H×List MemPlace),shapeOf P d t=some sh→DataW.trod enc P w 0 (fun _=>true) held fuel t cs=some x→∃ as,Enc sh as∧CR w as cs) {cs:List Value} :
  ∀ (fs:List Field) (o:Nat) (shs:List Sh) (xs:List (DataW H×List MemPlace)),kfV P fs o cs.length=true→(fs.mapM fun f=>shapeOf P d f.type)=some shs→
   (fs.mapM fun f=>DataW.trod enc P w 0 (fun _=>true) held fuel f.type ((cs.drop f.offset).take (P.cellsOf f.type)))=some xs→(∀ f∈fs,f.offset+P.cellsOf f.type≤cs.length)→∃ as,Enc (.st shs) as∧CR w as (cs.drop o)
 | [],o,shs,xs,ho,hs,hx,hle=>by
  simp [kfV] at ho
  simp at hs; subst hs
  exact ⟨[],.nil,by rw [ho]; simp; exact CR.nil⟩
 | f::fs,o,shs,xs,ho,hs,hx,hle=>by
  simp only [kfV,Bool.and_eq_true,beq_iff_eq] at ho
  obtain ⟨rfl,ho⟩:=ho
  simp only [List.mapM_cons,Option.bind_eq_bind,Option.bind_eq_some_iff,Option.pure_def,Option.some.injEq] at hs hx
  obtain ⟨s,hs1,ss,hs2,rfl⟩:=hs
  obtain ⟨y,hy,ys,hys,rfl⟩:=hx
  obtain ⟨a,ha,hca⟩:=ih _ _ _ _ hs1 hy
  obtain ⟨as,has,hcas⟩:=klT ih fs _ ss ys ho hs2 hys fun g hg=>hle g (List.mem_cons_of_mem _ hg)
  refine ⟨a++as,.cons s ss a as ha has,?_⟩
  have e:cs.drop f.offset=(cs.drop f.offset).take (P.cellsOf f.type)++cs.drop (f.offset+P.cellsOf f.type):=by
   rw [←List.drop_drop]; exact (List.take_append_drop _ _).symm
  rw [e]
  exact hca.append hcas
theorem knn {P:Program}:∀ (fs:List Field) (o n:Nat),kfV P fs o n=true→o≤n∧∀ f∈fs,f.offset+P.cellsOf f.type≤n
 | [],o,n,h=>by simp [kfV] at h; exact ⟨by omega,fun f hf=>by simp at hf⟩
 | f::fs,o,n,h=>by
  simp only [kfV,Bool.and_eq_true,beq_iff_eq] at h
  obtain ⟨h1,h2⟩:=knn fs _ _ h.2
  refine ⟨by omega,fun g hg=>?_⟩
  rcases List.mem_cons.1 hg with rfl | hg
  ·rw [h.1]; exact h1
  ·exact h2 g hg
theorem kng {d fuel:Nat} (ih:∀ (t:TypeId) (sh:Sh) (cs:List Value) (x:DataW H×List MemPlace),shapeOf P d t=some sh→DataW.trod enc P w 0 (fun _=>true) held fuel t cs=some x→∃ as,Enc sh as∧CR w as cs) {e:TypeId} {sh:Sh} (hsh:shapeOf P d e=some sh) (cs:List Value) :
  ∀ (n o:Nat),(∀ i,i<n→∃ x,DataW.trod enc P w 0 (fun _=>true) held fuel e ((cs.drop ((o+i)*P.cellsOf e)).take (P.cellsOf e))=some x)→(o+n)*P.cellsOf e=cs.length→∃ as,Enc (.st (List.replicate n sh)) as∧CR w as (cs.drop (o*P.cellsOf e))
 | 0,o,_,hl=>⟨[],.nil,by rw [show o*P.cellsOf e=cs.length by simpa using hl]; simp; exact CR.nil⟩
 | n+1,o,h,hl=>by
  obtain ⟨x,hx⟩:=h 0 (by omega)
  simp only [Nat.add_zero] at hx
  obtain ⟨a,ha,hca⟩:=ih _ _ _ _ hsh hx
  obtain ⟨as,has,hcas⟩:=kng ih hsh cs n (o+1) (fun i hi=>by rw [show o+1+i=o+(i+1) by omega]; exact h (i+1) (by omega)) (by rw [←hl]; congr 1; omega)
  refine ⟨a++as,.cons sh _ a as ha has,?_⟩
  have e1:cs.drop (o*P.cellsOf e)=(cs.drop (o*P.cellsOf e)).take (P.cellsOf e)++cs.drop ((o+1)*P.cellsOf e):=by
   rw [Nat.add_mul,Nat.one_mul,←List.drop_drop]; exact (List.take_append_drop _ _).symm
  rw [e1]
  exact hca.append hcas
theorem kon:∀ (d:Nat) (fuel:Nat) (t:TypeId) (sh:Sh) (cs:List Value) (x:DataW H×List MemPlace),shapeOf P d t=some sh→DataW.trod enc P w 0 (fun _=>true) held fuel t cs=some x→∃ as,Enc sh as∧CR w as cs
 | 0,_,_,_,_,_,h,_=>by cases h
 | d+1,0,t,sh,cs,x,_,hx=>by simp [DataW.trod] at hx
 | d+1,fuel+1,t,sh,cs,x,h,hx=>by
  have ih:=fun t sh cs x=>kon d fuel t sh cs x
  simp only [shapeOf] at h
  unfold DataW.trod at hx
  cases hu:P.underlying t with
  | none=>simp [hu] at h
  | some u=>
   simp only [hu] at h hx
   cases u <;> simp only [reduceCtorEq] at h
   case bool=>
    cases h
    split at hx <;> simp only [reduceCtorEq,Option.some.injEq,TypeDesc.int.injEq] at * <;> try contradiction
    rename_i b _
    exact ⟨_,.bool b,CR.one rfl (.sc _ rfl)⟩
   case int k=>
    cases h
    split at hx <;> simp only [reduceCtorEq,Option.some.injEq,TypeDesc.int.injEq] at * <;> try contradiction
    rename_i h1
    subst h1
    split at hx
    ·rename_i hc
     obtain ⟨rfl,hw⟩:=hc
     exact ⟨_,.int _ _ hw,CR.one rfl (.sc _ rfl)⟩
    ·cases hx
   case string=>
    cases h
    split at hx <;> simp only [reduceCtorEq,Option.some.injEq] at * <;> try contradiction
    split at hx
    ·rename_i hc
     exact ⟨_,.str _ hc,CR.one rfl (.sc _ rfl)⟩
    ·cases hx
   case slice e=>
    split at h
    ·cases h
    rename_i hk
    cases hse:shapeOf P d e with
    | none=>simp [hse] at h
    | some she=>
    simp only [hse,Option.map_some,Option.some.injEq] at h
    subst h
    split at hx <;> simp only [reduceCtorEq,Option.some.injEq,TypeDesc.slice.injEq] at * <;> try contradiction
    ·exact ⟨_,.sl she [] (fun x hx=>by simp at hx) (by simp),CR.one rfl (.slnil none)⟩
    ·rename_i a len cap h1
     subst h1
     split at hx
     ·rename_i hb
      obtain ⟨elems,he,hx⟩:=Option.bind_eq_some_iff.1 hx
      simp only [if_true] at hx
      obtain ⟨rest,hrest,-⟩:=Option.map_eq_some_iff.1 hx
      have el1:=mapM_some_length he
      have el2:=mapM_some_length hrest
      simp only [List.length_range] at el1 el2
      have elem:∀ i:Nat,∃ p:List Value×List AV,i<cap→w.cells? 0 (a.add (i*P.cellsOf e)) (P.cellsOf e)=some p.1∧Enc she p.2∧CR w p.2 p.1:=by
       intro i
       by_cases hi:i<cap
       ·have:∃ y,((w.cells? 0 (a.add (i*P.cellsOf e)) (P.cellsOf e)).bind (DataW.trod enc P w 0 (fun _=>true) held fuel e))=some y:=by
         by_cases hil:i<len
         ·have:=mapM_some_get he i i (by simp [hil])
          exact ⟨elems[i]'(by omega),by rw [this]; exact List.getElem?_eq_getElem _⟩
         ·have:=mapM_some_get hrest (i-len) (i-len) (by rw [List.getElem?_range (by omega)])
          rw [show len+(i-len)=i by omega] at this
          exact ⟨rest[i-len]'(by omega),by rw [this]; exact List.getElem?_eq_getElem _⟩
        obtain ⟨y,hy⟩:=this
        obtain ⟨csi,hc,hy⟩:=Option.bind_eq_some_iff.1 hy
        obtain ⟨as,g1,g2⟩:=ih e she csi y hse hy
        exact ⟨(csi,as),fun _=>⟨hc,g1,g2⟩⟩
       ·exact ⟨([],[]),fun h=>absurd h hi⟩
      obtain ⟨F,hF⟩:=Classical.axiomOfChoice elem
      by_cases hcap:cap=0
      ·subst hcap
       obtain rfl:len=0:=by omega
       exact ⟨[.sl []],.sl she [] (fun x hx=>by simp at hx) (by simp),CR.one rfl (.slnil _)⟩
      ·have hspot:a.spot=none:=by
        obtain ⟨h1,-,-⟩:=hF 0 (by omega)
        obtain ⟨-,h2,h3⟩:=World.cells?_some h1
        have h4:=h3 0 (by omega)
        rw [List.getElem?_eq_getElem (by omega)] at h4
        have:=World.cell?_spot h4
        simpa [Addr.add] using this
       obtain ⟨b,o,spot⟩:=a
       subst hspot
       have hlen:((List.range len).map fun i=>(F i).2).length=len:=by simp
       have hget:∀ (i:Nat) (c:List AV),((List.range len).map fun i=>(F i).2)[i]?=some c→i<len∧c=(F i).2:=fun i c hi=>by
        simp only [List.getElem?_map,Option.map_eq_some_iff] at hi
        obtain ⟨i',hi',rfl⟩:=hi
        have hlt:i<len:=by have:=(List.getElem?_eq_some_iff.1 hi').1; simpa using this
        rw [List.getElem?_range hlt] at hi'
        cases hi'
        exact ⟨hlt,rfl⟩
       have hval:∀ (i:Nat) (c:List AV),((List.range len).map fun i=>(F i).2)[i]?=some c→c.length=P.cellsOf e∧∀ (j:Nat) (x:AV),c[j]?=some x→x.one=true∧w.cell? ⟨b,o+i*P.cellsOf e+j,none⟩=some (((F i).1[j]?).getD undef)∧VR w noO mu0 0 x (((F i).1[j]?).getD undef):=fun i c hi=>by
        obtain ⟨hlt,rfl⟩:=hget i c hi
        obtain ⟨h1,h2,h3,h4⟩:=hF i (by omega)
        obtain ⟨-,h5,h6⟩:=World.cells?_some h1
        refine ⟨by omega,fun j x hj=>?_⟩
        obtain ⟨g1,v,g2,g3⟩:=h4 j x hj
        have hj':=(List.getElem?_eq_some_iff.1 hj).1
        have h7:=h6 j (by omega)
        rw [kfc,kfc] at h7
        rw [h7,g2]
        exact ⟨g1,rfl,g3⟩
       refine ⟨[.sl ((List.range len).map fun i=>(F i).2)],.sl she _ (fun x hx=>?_) (by omega),CR.one rfl ?_⟩
       ·simp only [List.mem_map,List.mem_range] at hx
        obtain ⟨i,hi,rfl⟩:=hx
        exact (hF i (by omega)).2.1
       ·have hmain:=VR.sl (w:=w) (O:=noO) (μ:=mu0) (n:=0) ((List.range len).map fun i=>(F i).2) b o cap (P.cellsOf e) (fun i j=>((F i).1[j]?).getD undef) (by omega) (by omega) (fun _ _ _ _=>noAv b)
         (fun i c hi=>(hval i c hi).1) (fun i c hi j x hj=>((hval i c hi).2 j x hj).2.1) (fun i c hi j x hj=>((hval i c hi).2 j x hj).1) (fun i c hi j x hj=>((hval i c hi).2 j x hj).2.2)
        rw [hlen] at hmain
        exact hmain
     ·cases hx
   case struct fs=>
    split at h
    ·rename_i ho
     cases hfs:fs.toList.mapM fun f=>shapeOf P d f.type with
     | none=>rw [hfs] at h; cases h
     | some shs=>
     rw [hfs] at h
     cases h
     split at hx <;> simp only [reduceCtorEq,Option.some.injEq,TypeDesc.struct.injEq] at * <;> try contradiction
     ·rename_i h1
      subst h1
      split at hx
      ·rename_i hl
       obtain ⟨xs,hxs,-⟩:=Option.map_eq_some_iff.1 hx
       obtain ⟨as,h1,h2⟩:=klT ih fs.toList 0 shs xs (by rw [hl]; exact ho) hfs hxs (by rw [hl]; exact (knn _ _ _ ho).2)
       exact ⟨as,h1,by simpa using h2⟩
      ·cases hx
     ·exact (‹∀ fs_1:Array Field,fs=fs_1→False› _ rfl).elim
    ·cases h
   case array n e=>
    split at h
    ·rename_i ho
     cases hse:shapeOf P d e with
     | none=>rw [hse] at h; cases h
     | some she=>
     rw [hse] at h
     cases h
     split at hx <;> simp only [reduceCtorEq,Option.some.injEq,TypeDesc.array.injEq] at * <;> try contradiction
     ·rename_i h1
      obtain ⟨rfl,rfl⟩:=h1
      split at hx
      ·rename_i hl
       obtain ⟨xs,hxs,-⟩:=Option.map_eq_some_iff.1 hx
       rename_i cs1 _ _
       have hl2:=mapM_some_length hxs
       simp only [List.length_range] at hl2
       have hel:∀ i,i<n→∃ x,DataW.trod enc P w 0 (fun _=>true) held fuel e ((List.drop ((0+i)*P.cellsOf e) cs1).take (P.cellsOf e))=some x:=fun i hi=>by
        have:=mapM_some_get hxs i i (by simp [hi])
        rw [Nat.zero_add,this]
        exact ⟨_,List.getElem?_eq_getElem (by omega)⟩
       obtain ⟨as,h1,h2⟩:=kng ih hse _ n 0 hel (by rw [hl,←ho]; simp)
       exact ⟨as,h1,by simpa using h2⟩
      ·cases hx
     ·exact (‹∀ (n_1:Nat) (e_1:TypeId),n=n_1∧e=e_1→False› _ _ ⟨rfl,rfl⟩).elim
    ·cases h
end
end Go.Abs
namespace Go.Abs
open Go Go.RowKit Go.ChangeShapes Go.WideShapes
def EncP:Sh→AV→Prop
 | .st fs,a=>∃ as,a = .ag as∧Enc (.st fs) as
 | s,a=>Enc s [a]
def EncPs:List Sh→List AV→Prop
 | [],[]=>True
 | s::ss,a::as=>EncP s a∧EncPs ss as
 | _,_=>False
section
variable {H:Type} {enc:TypeId×Value→H} {P:Program} {W:World}
theorem EncP.of_one {sh:Sh} {a:AV} (h:Enc sh [a]) (hs:∀ fs,sh≠.st fs):EncP sh a:=by
 cases sh <;> first | exact h | exact absurd rfl (hs _)
theorem CR.ag {as:List AV} {cs:Array Value} (h:CR W as cs.toList):VR W noO mu0 0 (.ag as) (.agg cs):=by
 refine .ag as cs (fun j=>cs.getD j undef) (by simpa using h.1.symm) (fun j c hj=>?_) (fun j c hj=>(h.2 j c hj).1) (fun j c hj=>?_)
 all_goals
  obtain ⟨h1,v,h2,h3⟩:=h.2 j c hj
  rw [Array.getElem?_toList] at h2
  simp only [Array.getD_eq_getD_getElem?,h2,Option.getD_some]
 exact h3
theorem ksk {d:Nat} {t:TypeId} {sh:Sh} {v:Value} {x:DataW H} {p:List MemPlace} {r:Reach} {b:Nat} (hs:shapeOf P d t=some sh) (hv:Value.okWide P W r b t v) (ht:DataW.Trod enc P W 0 (fun _=>true) true t v x p) :
  ∃ a,EncP sh a∧VR W noO mu0 0 a v:=by
 obtain ⟨fuel,hx⟩:=ht
 obtain ⟨as,h1,h2⟩:=kon d fuel t sh _ _ hs hx
 have single:∀ {sh:Sh} {u:Value},Enc sh as→CR W as [u]→(∀ fs,sh≠.st fs)→∃ a,EncP sh a∧VR W noO mu0 0 a u:=by
  intro sh u g1 g2 g3
  match as,g1,g2 with
  | [a],g1,g2=>
   obtain ⟨_,v,e,g⟩:=g2.2 0 a rfl
   simp at e; subst e
   exact ⟨a,.of_one g1 g3,g⟩
  | [],_,g2=>have:=g2.1; simp at this
  | _::_::_,_,g2=>have:=g2.1; simp at this
 cases d with
 | zero=>cases hs
 | succ d=>
  simp only [shapeOf] at hs
  cases hu:P.underlying t with
  | none=>simp [hu] at hs
  | some u=>
   simp only [hu] at hs
   cases u <;> simp only [reduceCtorEq] at hs
   case bool=>obtain ⟨b,rfl⟩:=okWide_bool hu hv; cases hs; exact single h1 (by simpa [Value.cells] using h2) (by simp)
   case int k=>obtain ⟨b,rfl⟩:=okWide_int hu hv; cases hs; exact single h1 (by simpa [Value.cells] using h2) (by simp)
   case string=>obtain ⟨b,rfl⟩:=okWide_string hu hv; cases hs; exact single h1 (by simpa [Value.cells] using h2) (by simp)
   case slice e=>
    obtain ⟨a,len,cap,rfl⟩:=okWide_slice hu hv
    have:∀ fs,sh≠.st fs:=by
     rintro fs rfl
     split at hs
     ·cases hs
     ·obtain ⟨_,_,h⟩:=Option.map_eq_some_iff.1 hs; cases h
    exact single h1 (by simpa [Value.cells] using h2) this
   case struct fs=>
    obtain ⟨cs,rfl,_⟩:=okWide_struct hu hv
    obtain ⟨fs',rfl⟩:∃ fs',sh = .st fs':=by
     split at hs
     ·obtain ⟨s,_,h⟩:=Option.map_eq_some_iff.1 hs; exact ⟨s,h.symm⟩
     ·cases hs
    exact ⟨.ag as,⟨as,rfl,h1⟩,CR.ag (by simpa [Value.cells] using h2)⟩
   case array n e=>
    obtain ⟨cs,rfl,_⟩:∃ cs,v = .agg cs∧cs.size=P.cellsOf t:=by
     simp only [Value.okWide,hu] at hv
     obtain ⟨cs,h1,h2,_⟩:=hv
     exact ⟨cs,h1,h2⟩
    obtain ⟨fs',rfl⟩:∃ fs',sh = .st fs':=by
     split at hs
     ·obtain ⟨s,_,h⟩:=Option.map_eq_some_iff.1 hs; exact ⟨_,h.symm⟩
     ·cases hs
    exact ⟨.ag as,⟨as,rfl,h1⟩,CR.ag (by simpa [Value.cells] using h2)⟩
theorem klH {d:Nat} {r:Reach} {b:Nat}:∀ {ts:List TypeId} {shs:List Sh} {vs:List Value} {ds:List (DataW H)} {ps:List MemPlace},ts.mapM (shapeOf P d)=some shs→
  (∀ (j:Nat) t v,ts[j]?=some t→vs[j]?=some v→Value.okWide P W r b t v)→DataW.TrodAll enc P W 0 (fun _=>true) true ts vs ds ps→
  ∃ as,EncPs shs as∧vs.length=as.length∧ds.length=ts.length∧∀ (j:Nat) (c:AV),as[j]?=some c→∃ u,vs[j]?=some u∧VR W noO mu0 0 c u
 | [],shs,vs,ds,ps,hs,hv,ht=>by
  simp at hs; subst hs
  cases vs <;> cases ds <;> simp [DataW.TrodAll] at ht
  exact ⟨[],trivial,rfl,rfl,fun j c hj=>by simp at hj⟩
 | t::ts,shs,vs,ds,ps,hs,hv,ht=>by
  simp only [List.mapM_cons,Option.bind_eq_bind,Option.bind_eq_some_iff,Option.pure_def,Option.some.injEq] at hs
  obtain ⟨s,hs1,ss,hs2,rfl⟩:=hs
  obtain ⟨v,vs',dd,ds',p,q,rfl,rfl,rfl,h1,h2⟩:=trodAll_cons ht
  obtain ⟨a,g1,g2⟩:=ksk hs1 (hv 0 t v rfl rfl) h1
  obtain ⟨as,f1,f2,f3,f4⟩:=klH hs2 (fun j t v e1 e2=>hv (j+1) t v (by simpa using e1) (by simpa using e2)) h2
  refine ⟨a::as,⟨g1,f1⟩,by simp [f2],by simp [f3],fun j c hj=>?_⟩
  cases j with
  | zero=>simp at hj; subst hj; exact ⟨v,rfl,g2⟩
  | succ j=>simpa using f4 j c (by simpa using hj)
theorem kiJ (hl:laidOutB P=true) {W':World} (hb:Below W.heap.size W W'):∀ {ts:List TypeId} {vs:List Value} {ds:List (DataW H)} {ps:List MemPlace},(∀ t∈ts,P.readableRec t=true∧t<P.types.size)→
  DataW.TrodAll enc P W 0 (fun _=>true) true ts vs ds ps→(∀ x∈ps,x.block<W.heap.size)→DataW.TrodAll enc P W' 0 (fun b=>decide (b<W.heap.size)) true ts vs ds ps
 | [],vs,ds,ps,_,h,_=>by cases vs <;> cases ds <;> simp [DataW.TrodAll] at h ⊢; exact h
 | t::ts,vs,ds,ps,hr,h,hlt=>by
  obtain ⟨v,vs',d,ds',p,q,rfl,rfl,rfl,h1,h2⟩:=trodAll_cons h
  obtain ⟨r1,r2⟩:=hr t (by simp)
  exact ⟨p,q,Below.trod hl r1 r2 h1 hb fun x hx=>hlt x (by simp [hx]),kiJ hl hb (fun t' ht'=>hr t' (by simp [ht'])) h2 fun x hx=>hlt x (by simp [hx]),rfl⟩
theorem law_lifted {C:Checked} {os:Os} {f:FuncId} {fn:Func} {s:ChangeSpec} (own:ownKnob C.prog.godebug=none) (started:os.Started) (laid:laidOutB C.prog=true) (noInit:C.prog.inits.idxOf? f=none) (hfn:C.prog.funcs[f]?=some fn)
  (witness:∃ (w:World) (tape:Tape) (i:Input),w.os=os∧(w.forCall tape i).Shaped C.prog∧i.vars=[]∧Input.okWide C.prog (w.forCall tape i) .any w.heap.size f i∧
   s.pre6 enc C.prog fn [] false (w.forCall tape i).memory i.args∧({}:Assume).holds C.prog (lone (Frame.enter C.prog f i.args .normal) [] (w.forCall tape i)))
  (hvars:s.vars=[]) (hspec:∀ ds:List (DataW H),ds.length=fn.params.toList.length→s.fn H ds = { results:=[.lit (.bool true)],args:=ds })
  {tb:TypeId} (hres:fn.resultTypes = #[tb]) (hb:C.prog.underlying tb=some .bool) {d:Nat} {shs:List Sh} (hsh:fn.params.toList.mapM (shapeOf C.prog d)=some shs)
  (hread:fn.params.toList.all (fun t=>C.prog.readableRec t&&decide (t<C.prog.types.size))=true) (pc:∀ as,EncPs shs as→PC C.prog f as (·= .sc (.bool true))) :
  ReturnsInHanded {} C os f .any (s.pre6 enc C.prog fn [] false) (s.post enc C.prog fn false true false false):=by
 refine returnsInHanded_of_change own started noInit hfn witness ?_
 intro W base args ds gs before hval hW hcnd _
 have hW':=hW
 obtain ⟨p,q,hA,hV,rfl,hfz,hnd⟩:=hW
 rw [hvars] at hV
 obtain ⟨rfl,rfl⟩:=trodVars_none hV
 obtain ⟨as,h1,h2,h3,h4⟩:=klH hsh (fun j t v e1 e2=>hval j t v (by simpa using e1) (by simpa using e2)) hA
 refine ((pc as h1).2 noO W args (fun b h=>h.elim) (by simpa using h2) (fun j c hj=>by simpa using h4 j c hj)).mono ?_
 rintro e W' ⟨u,v,rfl,rfl,hu,hB⟩
 have hu':=hu.bool_inv
 subst hu'
 have hlt:∀ x∈p,x.block<W.heap.size:=fun x hx=>by simpa using hW'.lt x (List.mem_append_left _ hx)
 have hsp:=hspec ds h3
 refine ⟨_,rfl,ds,[],p++[],[],p,[],hW',?_,?_,?_,hB.frame _,fun h=>by cases h⟩
 ·rw [List.append_nil,hsp,hres]
  exact trodAll_mk1 (shut_bool hb true)
 ·rw [List.append_nil,hsp]
  exact kiJ laid hB (fun t ht=>by have:=List.all_eq_true.1 hread t ht; simpa only [Bool.and_eq_true,decide_eq_true_eq] using this) hA hlt
 ·rw [hvars,List.append_nil,hsp]
  rfl
end
end Go.Abs
namespace Go.Abs
open Go
def Dec {α:Type} (sh:Sh) (f:α→List AV) (ok:α→Prop):Prop:=∀ as,Enc sh as→∃ x,as=f x∧ok x
def okI (k:IntKind) (n:Int):Prop:=(Lit.int k n).wf=true
def okS (l:List UInt8):Prop:=l.length≤maxLen
def okL {α:Type} (ok:α→Prop) (l:List α):Prop:=l.length≤maxLen∧∀ x∈l,ok x
theorem ktf:Dec .str str1 okS:=fun as h=>by
 cases h with
 | str s h=>exact ⟨s.data.toList,by simp,by simpa [okS] using h⟩
theorem ktN {α:Type} {e:Sh} {f:α→List AV} {ok:α→Prop} (h:Dec e f ok):Dec (.sl e) (sl1 f) (okL ok):=fun as ha=>by
 cases ha with
 | sl _ es he hl=>
  have:∀ es:List (List AV),(∀ x∈es,Enc e x)→∃ l:List α,es=l.map f∧∀ x∈l,ok x:=by
   intro es
   induction es with
   | nil=>exact fun _=>⟨[],rfl,fun x hx=>by cases hx⟩
   | cons a es ih=>
    intro h2
    obtain ⟨x,rfl,ox⟩:=h a (h2 a (by simp))
    obtain ⟨l,rfl,ol⟩:=ih fun y hy=>h2 y (by simp [hy])
    exact ⟨x::l,rfl,fun y hy=>by
     rcases List.mem_cons.1 hy with rfl | hy
     ·exact ox
     ·exact ol y hy⟩
  obtain ⟨l,rfl,ol⟩:=this es he
  exact ⟨l,rfl,by simpa using hl,ol⟩
theorem kmN {as:List AV} (h:Enc (.st []) as):as=[]:=by cases h; rfl
theorem kis {s:Sh} {ss:List Sh} {bs:List AV} (h:Enc (.st (s::ss)) bs):∃ a as,bs=a++as∧Enc s a∧Enc (.st ss) as:=by
 cases h with
 | cons _ _ a as h1 h2=>exact ⟨a,as,rfl,h1,h2⟩
theorem knl {xs:List AV} (h:EncPs [] xs):xs=[]:=by cases xs with | nil=>rfl | cons _ _=>exact h.elim
theorem klr {s:Sh} {ss:List Sh} {xs:List AV} (h:EncPs (s::ss) xs):∃ a as,xs=a::as∧EncP s a∧EncPs ss as:=by
 cases xs with
 | nil=>exact h.elim
 | cons a as=>exact ⟨a,as,rfl,h.1,h.2⟩
end Go.Abs
namespace Go.Abs
open Go Go.RowKit
def okT:(t:Ty)→t.den→Prop
 | .i k,n=>okI k n
 | .s,l=>okS l
 | .sl t,l=>okL (okT t) l
 | .pr t u,x=>okT t x.1∧okT u x.2
 | .w t,x=>okT t x
 | _,_=>True
def okTs:(ts:List Ty)→(tup ts).den→Prop
 | [],_=>True
 | [t],x=>okT t x
 | t::u::ts,x=>okT t x.1∧okTs (u::ts) x.2
mutual
def shOk:Sh→Ty→Bool
 | .int k,.i k'=>k==k'
 | .bool,.b=>true
 | .str,.s=>true
 | .sl e,.sl t=>shOk e t
 | .st [],.un=>true
 | .st [f],.w t=>shOk f t
 | .st (f::g::fs),.pr t u=>shOk f t&&stOk (g::fs) u
 | _,_=>false
def stOk:List Sh→Ty→Bool
 | [f],t=>shOk f t
 | f::fs,.pr t u=>shOk f t&&stOk fs u
 | _,_=>false
end
mutual
theorem kha:∀ (sh:Sh) (t:Ty),shOk sh t=true→Dec sh t.enc (okT t)
 | .int k,.i k',h=>by
  simp only [shOk,beq_iff_eq] at h
  subst h
  intro as ha
  cases ha with | int _ n h=>exact ⟨n,rfl,h⟩
 | .bool,.b,_=>by
  intro as ha
  cases ha with | bool b=>exact ⟨b,rfl,trivial⟩
 | .str,.s,_=>ktf
 | .sl e,.sl t,h=>ktN (kha e t (by simpa [shOk] using h))
 | .st [],.un,_=>fun as ha=>⟨(),kmN ha,trivial⟩
 | .st [f],.w t,h=>fun as ha=>by
  obtain ⟨a,bs,rfl,h1,h2⟩:=kis ha
  cases kmN h2
  obtain ⟨x,rfl,ox⟩:=kha f t (by simpa [shOk] using h) a h1
  exact ⟨x,by rw [List.append_nil]; rfl,ox⟩
 | .st (f::g::fs),.pr t u,h=>fun as ha=>by
  simp only [shOk,Bool.and_eq_true] at h
  obtain ⟨a,bs,rfl,h1,h2⟩:=kis ha
  obtain ⟨x,rfl,ox⟩:=kha f t h.1 a h1
  obtain ⟨y,rfl,oy⟩:=ksc (g::fs) u h.2 bs h2
  exact ⟨(x,y),rfl,ox,oy⟩
theorem ksc:∀ (fs:List Sh) (t:Ty),stOk fs t=true→∀ as,Enc (.st fs) as→∃ x,as=t.enc x∧okT t x
 | [f],t,h,as,ha=>by
  obtain ⟨a,bs,rfl,h1,h2⟩:=kis ha
  cases kmN h2
  obtain ⟨x,rfl,ox⟩:=kha f t (by simpa [stOk] using h) a h1
  exact ⟨x,by rw [List.append_nil],ox⟩
 | f::g::fs,.pr t u,h,as,ha=>by
  simp only [stOk,Bool.and_eq_true] at h
  obtain ⟨a,bs,rfl,h1,h2⟩:=kis ha
  obtain ⟨x,rfl,ox⟩:=kha f t h.1 a h1
  obtain ⟨y,rfl,oy⟩:=ksc (g::fs) u h.2 bs h2
  exact ⟨(x,y),rfl,ox,oy⟩
end
theorem kqC {sh:Sh} {t:Ty} (h:shOk sh t=true) {a:AV} (ha:EncP sh a):∃ x,t.dat=true→a=t.av x∧okT t x:=by
 cases sh with
 | st fs=>
  obtain ⟨as,rfl,he⟩:=ha
  obtain ⟨x,rfl,ox⟩:=kha (.st fs) t h as he
  refine ⟨x,fun _=>⟨?_,ox⟩⟩
  have:t.agg=true:=by
   cases t <;> first | rfl | (cases fs with
    | nil=>simp [shOk] at h
    | cons f fs=>cases fs <;> simp [shOk] at h)
  rw [ker this]
 | _=>
  obtain ⟨x,e,ox⟩:=kha _ t h [a] ha
  refine ⟨x,fun hd=>⟨?_,ox⟩⟩
  have:t.agg=false:=by
   cases t <;> first | rfl | simp [shOk] at h
  have:=kem (x:=x) this hd
  rw [←e] at this
  exact (List.cons.inj this).1
def shsOk:List Sh→List Ty→Bool
 | [],[]=>true
 | s::ss,t::ts=>shOk s t&&t.dat&&shsOk ss ts
 | _,_=>false
theorem decPs {P:Program}:∀ {shs:List Sh} {ts:List Ty} {xs:List AV},shsOk shs ts=true→EncPs shs xs→∃ x:(tup ts).den,AR P ts x xs∧okTs ts x
 | [],[],xs,h,he=>by cases knl he; exact ⟨(),rfl,trivial⟩
 | s::ss,[t],xs,h,he=>by
  simp only [shsOk,Bool.and_eq_true] at h
  obtain ⟨a,as,rfl,h1,h2⟩:=klr he
  cases ss with
  | cons s' ss=>simp [shsOk] at h
  | nil=>
   cases knl h2
   obtain ⟨x,hx⟩:=kqC h.1.1 h1
   obtain ⟨rfl,ox⟩:=hx h.1.2
   exact ⟨x,⟨_,rfl,(kdU h.1.2).2 rfl⟩,ox⟩
 | s::ss,t::u::ts,xs,h,he=>by
  rw [show shsOk (s::ss) (t::u::ts)=(shOk s t&&t.dat&&shsOk ss (u::ts)) from rfl] at h
  simp only [Bool.and_eq_true] at h
  obtain ⟨a,as,rfl,h1,h2⟩:=klr he
  obtain ⟨x,hx⟩:=kqC h.1.1 h1
  obtain ⟨rfl,ox⟩:=hx h.1.2
  obtain ⟨y,hy,oy⟩:=decPs (ts:=u::ts) h.2 h2
  exact ⟨(x,y),⟨_,_,rfl,(kdU h.1.2).2 rfl,hy⟩,ox,oy⟩
 | [],_::_,xs,h,he=>by simp [shsOk] at h
 | _::_,[],xs,h,he=>by simp [shsOk] at h
theorem law_of {P:Program} {g:FuncId} {C:Ctr} (hG:Good P g C) {shs:List Sh} (hs:shsOk shs C.as=true) (hF:∀ x,okTs C.as x→∃ r,C.F x=some r∧rav C.rs r = .sc (.bool true)) (xs:List AV) (h0:EncPs shs xs):PC P g xs (·= .sc (.bool true)):=by
 obtain ⟨x,hx,ox⟩:=decPs (P:=P) hs h0
 obtain ⟨r,hr,er⟩:=hF x ox
 have:=hG.2.1 x r hr xs hx
 rw [er] at this
 exact this
end Go.Abs
