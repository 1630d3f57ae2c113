/- The machinery, part 4. -/
import Derived.Test.YtpjlpghgmjlbbaaGreatZ3
set_option linter.constructorNameAsVariable false
set_option linter.unusedVariables false
set_option linter.unusedSimpArgs false
set_option linter.unusedSectionVars false
namespace Go.Abs
open Go Go.RowKit
section
variable {P:Program} {κ κ':Nat->Option Nat} {ln ln':Nat->Nat} {z z':AH} {c:Cx sem} {s:TS sem} {env:Env} {h h':AH} {n n' N N':Nat}
variable {ρ:Ty} {Kf:TV sem->TS sem->sem.Ans ρ} {r:ρ.den}
variable {d:Option Tmp} {ty:TypeId} {pos:String} {after:Array Edge} {g:Option (Nat×Bool)}
theorem ksx (R:Rel P κ ln z c s env h n) {T:TypeId} (hk:ktC P s T Kf=some r):Res P κ ln z c s env h n ⟨d,.alloc T,ty,pos,after,g⟩ Kf r:=by
 unfold ktC at hk
 split at hk
 ·rename_i zs Ts hz hT
  split at hk
  ·rename_i hl
   have hsc:=kjD hz
   have hone:∀ a∈zs,a.one=true:=fun a ha=>by obtain ⟨v,rfl,hv⟩:=hsc a ha; exact hv
   have bx:newBx (zeroC P s zs Ts).2 (.bx T (zeroC P s zs Ts).1) Kf=some r->Res P κ ln z c s env h n ⟨d,.alloc T,ty,pos,after,g⟩ Kf r:=fun hk=>by
    obtain ⟨κ',ln',R',h1,h2,h3,h4,h5,h6⟩:=kgs zs Ts R hsc hl
    obtain ⟨tv,s',v,h',n',κ2,ln2,z2,g1,g2,g3,g4,g5⟩:=kkN (o:=⟨d,.alloc T,ty,pos,after,g⟩) rfl R' h1 hone (fun K hk=>by simp only [aop,hz]; exact hk) hk
    exact ⟨tv,s',v,h',n',κ2,ln2,z2,g1,g2,g3,g4,by have:=g5.1; omega,fun id hi=>⟨(g5.2.1 id (by omega)).1.trans (h4 id hi),fun hc=>((g5.2.1 id (by omega)).2 hc).trans (h5 id hi)⟩,fun hc=>by cases hc⟩
   split at hk
   ·rename_i t ht
    split at hk
    ·exact bx hk
    ·split at hk
     ·rename_i x hx
      split at hk
      ·rename_i hiz
       obtain ⟨rest,hr,hre⟩:=jcm _ _ |>.1 hiz
       obtain rfl:=jcp.1 hre
       obtain ⟨a,e,g1⟩:=kdC (z:=z) t x zs [] (ket ht) hx hr
       rw [jbd] at e; subst e
       exact koB rfl R (ket ht) g1 hone (fun K hk=>by simp only [aop,hz]; exact hk) hk
      ·exact kaa hk
     ·exact kaa hk
   ·exact bx hk
  ·exact kaa hk
 ·exact kaa hk
theorem kwa (R:Rel P κ ln z c s env h n) {T:TypeId} {x:Operand} {v:TV sem} (hv:TVR P κ ln z s.n v (ev env x)) (hk:boxX s T v Kf=some r):Res P κ ln z c s env h n ⟨d,.box T x,ty,pos,after,g⟩ Kf r:=by
 have other:∀ vs,kaz v=some vs->newBx s (.bx T vs) Kf=some r->Res P κ ln z c s env h n ⟨d,.box T x,ty,pos,after,g⟩ Kf r:=fun vs hc hk=>by
  obtain ⟨as,h1,h2⟩:=hv.one_cells hc
  refine kkN rfl R h2 ?_ (fun K hk=>by simp only [aop,h1]; exact hk) hk
  generalize ev env x=a at *
  intro b hb
  cases hv with
  | c t x a hd hs=>
   obtain ⟨cs,h3,h4⟩:=kjr hd hs
   rw [h1] at h3; cases h3
   exact h4.one_rev (kaQ t x hd) b hb
  | ag vs' as' _ h5=>cases h1; exact h5 b hb
  | un | ud | tp | gs | yl | kp=>simp [kaz] at hc
  | sc w hw=>cases h1; simp at hb; subst hb; exact hw
  | fq t x o a hd hs=>rcases hs.fp_inv with ⟨cs,rfl,_⟩ | ⟨id,i,j,k,T,es,e,rfl,_⟩ <;> (cases h1; simp at hb; subst hb; rfl)
  | cv m x y F a hcv=>obtain ⟨g,as',rfl,_⟩:=hcv; cases h1; simp at hb; subst hb; rfl
  | _=>cases h1; simp at hb; subst hb; rfl
 unfold boxX at hk
 split at hk
 ·rename_i t y
  split at hk
  ·rename_i hc
   exact other _ (by simp only [kaz,hc,if_true]) hk
  ·cases hv with
   | c _ _ a hd hs=>
    obtain ⟨cs,h3,h4⟩:=kjr hd hs
    exact koB rfl R hd h4 (h4.one_rev (kaQ t y hd)) (fun K hk=>by simp only [aop,h3]; exact hk) hk
 ·split at hk
  ·rename_i vs hc
   exact other vs hc hk
  ·exact kaa hk
theorem kls {t':Ty} {y:t'.den} {cs:List AV} {m:Nat} {ag:Bool} (hd:t'.dat=true) (ha:t'.agg=ag) (hw:t'.wd=m) (hs:SnapL z (cs.take m) (t'.enc y)) (hl:m<=cs.length) :
  ∃ a,TVR P κ ln z N (.c t' y) a/\(ag=true->a = .ag (cs.take m))/\(ag=false->cs[0]?=some a):=by
 cases ag with
 | true=>exact ⟨.ag (cs.take m),.c _ _ _ hd (by rw [kgq ha]; exact Snap.agL hs),fun _=>rfl,(fun e=>by cases e)⟩
 | false=>
  have h1:=kwL ha hd
  rw [kgj ha hd] at hs
  cases cs with
  | nil=>simp at hl; omega
  | cons a cs=>
   rw [show m=1 by omega] at hs
   simp only [List.take_succ_cons,jdi] at hs
   cases hs with
   | cons k1 _=>exact ⟨a,.c _ _ _ hd k1,(fun e=>by cases e),fun _=>rfl⟩
theorem kfE {α:Type} {l:List α} {i:Int} {y:α} (h:gi l i=some y):0<=i/\l[i.toNat]?=some y/\i.toNat<l.length:=by
 obtain ⟨h1,h2⟩:=kmS h
 exact ⟨h1,h2,(jad.1 h2).1⟩
theorem SnapE.at {es es':List (List AV)} (hs:SnapE z es es') {q:Nat} {e':List AV} (hq:es'[q]?=some e'):∃ e,es[q]?=some e/\SnapL z e e':=by
 obtain ⟨e,he⟩:=kag hs.1 hq
 exact ⟨e,he,hs.2 q e e' he hq⟩
theorem kll {α β:Type} {l:List α} {f:α->β} {q:Nat} {y:α} (h:l[q]?=some y):(l.map f)[q]?=some (f y):=by rw [jaw,h]; rfl
theorem kxy {t:Ty} {x:t.den} {o:Nat} {a:AV} (hzin:∀ q B,z q=some B->h q=some B) (hs:Snap z a (.fp ((t.enc x).drop o))):∃ cs,deref h a=some cs/\SnapL z cs ((t.enc x).drop o):=by
 rcases hs.fp_inv with ⟨cs,rfl,h1⟩ | ⟨id,i,j,k,T,es,e,rfl,h1,h2,h3⟩
 ·exact ⟨cs,rfl,h1⟩
 ·exact ⟨e.drop j,by simp only [deref,hzin _ _ h1,h2]; rfl,h3⟩
theorem kia:∀ (t:Ty) (x:t.den) (o m:Nat) (ag:Bool) {t':Ty} {y:t'.den},t.dat=true->comp (A:=sem) t x o m ag=some ⟨t',y⟩->t'.dat=true/\t'.agg=ag/\t'.wd=m/\o+m<=t.wd/\((t.enc x).drop o).take m=t'.enc y
 | .pr t u,x,o,m,ag,t',y,hd,hc=>by
  simp only [Ty.dat,jac] at hd
  have l1:=kaf t x.1 hd.1
  have l2:=kaf u x.2 hd.2
  show _/\_/\_/\o+m<=t.wd+u.wd/\((t.enc x.1++u.enc x.2).drop o).take m=_
  simp only [comp] at hc
  split at hc
  ·rename_i hh
   obtain ⟨rfl,rfl,rfl⟩:=hh
   cases hc
   exact ⟨by simp [Ty.dat,hd],rfl,rfl,by omega,by rw [jck,jbr (by simp; omega)]; rfl⟩
  ·split at hc
   ·rename_i hle
    obtain ⟨g1,g2,g3,g4,g5⟩:=kia t x.1 o m ag hd.1 hc
    refine ⟨g1,g2,g3,by omega,?_⟩
    rw [List.drop_append_of_le_length (by omega),List.take_append_of_le_length (by simp; omega)]
    exact g5
   ·split at hc
    ·rename_i hle
     obtain ⟨g1,g2,g3,g4,g5⟩:=kia u x.2 (o-t.wd) m ag hd.2 hc
     refine ⟨g1,g2,g3,by omega,?_⟩
     rw [List.drop_append,jbq (by omega),jba,l1]
     exact g5
    ·cases hc
 | .w t,x,o,m,ag,t',y,hd,hc=>by
  simp only [comp] at hc
  split at hc
  ·rename_i hh
   obtain ⟨rfl,rfl,rfl⟩:=hh
   cases hc
   have hlen:=kaf (.w t) x hd
   simp only [Ty.wd] at hlen
   exact ⟨hd,rfl,rfl,by simp [Ty.wd],by rw [jck,jbr (by omega)]⟩
  ·exact kia t x o m ag hd hc
 | .i _,x,o,m,ag,t',y,hd,hc | .b,x,o,m,ag,t',y,hd,hc | .s,x,o,m,ag,t',y,hd,hc | .un,x,o,m,ag,t',y,hd,hc
 | .sl _,x,o,m,ag,t',y,hd,hc | .pt _,x,o,m,ag,t',y,hd,hc | .op _,x,o,m,ag,t',y,hd,hc | .ar _ _,x,o,m,ag,t',y,hd,hc=>by
  simp only [comp] at hc
  split at hc
  ·rename_i hh
   obtain ⟨rfl,rfl,rfl⟩:=hh
   cases hc
   have hlen:=kaf _ x hd
   exact ⟨hd,rfl,rfl,by omega,by rw [jck,jbr (by omega)]⟩
  ·cases hc
 | .nt,x,o,m,ag,t',y,hd,hc=>by simp [Ty.dat] at hd
 | .sm _ _,x,o,m,ag,t',y,hd,hc=>by simp [Ty.dat] at hd
 | .fn _ _ _,x,o,m,ag,t',y,hd,hc=>by simp [Ty.dat] at hd
theorem knB (R:Rel P κ ln z c s env h n) {T:TypeId} {x:Operand} {t:Ty} {y:t.den} {j m:Nat} {ag:Bool} {D:List AV} (hd:t.dat=true) (hag:aggO P T=some ag) (hm:P.cellsOf T=m) (hp:deref h (ev env x)=some D) (hs:SnapL z (D.take (t.wd-j)) ((t.enc y).drop j))
  (hk:partX t y j m ag (fun v=>Kf v s)=some r):Res P κ ln z c s env h n ⟨d,.load T x,ty,pos,after,g⟩ Kf r:=by
 unfold partX at hk
 split at hk
 ·rename_i p hc
  obtain ⟨t',y'⟩:=p
  obtain ⟨g1,g2,g3,g4,g5⟩:=kia t y j m ag hd hc
  have hl:=hs.len
  rw [jdo,kaf t y hd,jbh] at hl
  have h1:=hs.take m
  rw [g5,List.take_take,Nat.min_eq_left (by omega)] at h1
  obtain ⟨a,k1,k2,k3⟩:=kls (P:=P) (κ:=κ) (ln:=ln) (N:=s.n) g1 g2 g3 h1 (by omega)
  refine R.q (fun K hk=>?_) k1 hk
  simp only [aop,hp,loadK,hag]
  cases ag with
  | true=>refine ⟨by omega,?_⟩; rw [hm,<-k2 rfl]; exact hk
  | false=>exact ⟨a,k3 rfl,hk⟩
 ·exact kaa hk
theorem klz (R:Rel P κ ln z c s env h n) {T:TypeId} {x:Operand} {t:Ty} {y:t.den} {j m:Nat} {ag:Bool} {cs:List AV} (hd:t.dat=true) (hag:aggO P T=some ag) (hm:P.cellsOf T=m) (hs:SnapL z cs (t.enc y)) (hp:deref h (ev env x)=some (cs.drop j))
  (hk:partX t y j m ag (fun v=>Kf v s)=some r):Res P κ ln z c s env h n ⟨d,.load T x,ty,pos,after,g⟩ Kf r:=by
 refine knB R hd hag hm hp ?_ hk
 have hl:=hs.len
 rw [kaf t y hd] at hl
 rw [jbr (by simp; omega)]
 exact hs.drop j
theorem ktK (R:Rel P κ ln z c s env h n) {T:TypeId} {x:Operand} {t:Ty} {y:t.den} {j m:Nat} {ag:Bool} (hd:t.dat=true) (hag:aggO P T=some ag) (hm:P.cellsOf T=m) (hs:Snap z (ev env x) (.fp ((t.enc y).drop j)))
  (hk:partX t y j m ag (fun v=>Kf v s)=some r):Res P κ ln z c s env h n ⟨d,.load T x,ty,pos,after,g⟩ Kf r:=by
 obtain ⟨cs,hp,h1⟩:=kxy R.zin hs
 refine knB R hd hag hm hp ?_ hk
 have hl:=h1.len
 rw [jdo,kaf t y hd] at hl
 rw [jbr (by omega)]
 exact h1
theorem koX {q id j:Nat} {x:Operand} {k:Nat} {T:TypeId} {as:List AV} (he:ev env x = .own q 0 j) (hh:h q=some (.cells k T [as])):deref h (ev env x)=some (as.drop j):=by
 rw [he]; simp only [deref,hh]; rfl
theorem knf {q i j:Nat} {x:Operand} {k:Nat} {T:TypeId} {es:List (List AV)} {e:List AV} (he:ev env x = .own q i j) (hh:h q=some (.cells k T es)) (hi:es[i]?=some e):deref h (ev env x)=some (e.drop j):=by
 rw [he]; simp only [deref,hh,hi]; rfl
theorem ksH {α:Type} {k:Nat} {f:α->List AV} (hf:∀ y,(f y).length=k):∀ (l:List α) (i:Nat) (y:α),l[i]?=some y->(((l.map f).flatten).drop (i*k)).take k=f y
 | [],i,y,h=>by simp at h
 | a::l,0,y,h=>by simp at h; subst h; simp [<-hf a]
 | a::l,i+1,y,h=>by
  have:=ksH hf l i y (by simpa using h)
  rw [jap,List.flatten_cons,List.drop_append,jbq (by rw [hf a,Nat.succ_mul]; omega),jba,hf a,show (i+1)*k-k=i*k by rw [Nat.succ_mul]; omega]
  exact this
theorem kuL (R:Rel P κ ln z c s env h n) {T:TypeId} {x:Operand} {v:TV sem} (hv:TVR P κ ln z s.n v (ev env x)) (hk:loadX P c s T v Kf=some r):Res P κ ln z c s env h n ⟨d,.load T x,ty,pos,after,g⟩ Kf r:=by
 unfold loadX at hk
 split at hk
 ·exact kaa hk
 ·rename_i ag hag
  simp only at hk
  split at hk
  ·rename_i id j
   generalize he:ev env x=a at hv
   cases hv with
   | ptr _ _ q hN hq=>
    split at hk
    ·rename_i T' vs hB
     cases R.blk _ _ hB with
     | bx _ _ q' as hq' hh hvs h1=>
      rw [hq] at hq'; cases hq'
      have hp:=koX (id:=id) he hh
      have hl:=hvs.len
      split at hk
      ·rename_i hagt
       split at hk
       ·rename_i hle
        refine R.q (fun K hk=>?_) (.ag _ _ ((hvs.drop j).take _) (fun a ha=>h1 a (jda (jco ha)))) hk
        simp only [aop,hp,loadK,hag,hagt]
        exact ⟨by simp; omega,hk⟩
       ·exact kaa hk
      ·rename_i hagt
       split at hk
       ·rename_i v hvj
        obtain ⟨a,ha,hva⟩:=hvs.at hvj
        refine R.q (fun K hk=>?_) hva hk
        simp only [aop,hp,loadK,hag]
        rw [jch] at hagt; subst hagt
        exact ⟨a,by rw [jaq]; simpa using ha,hk⟩
       ·exact kaa hk
    ·rename_i T' t y hB
     cases R.blk _ _ hB with
     | el _ _ _ q' cs hd hq' hh hvs h1 hl=>
      rw [hq] at hq'; cases hq'
      exact klz R hd hag rfl hvs (koX (id:=id) he hh) hk
    ·exact kaa hk
  ·rename_i id i j
   generalize he:ev env x=a at hv
   cases hv with
   | adr _ _ _ q hN hq h0 h1=>
    split at hk
    ·rename_i T' t l hB
     simp only [jaa] at hk
     obtain ⟨y,hg,hk⟩:=hk
     obtain ⟨_,hy,hlt⟩:=kfE hg
     cases R.blk _ _ hB with
     | sl0 _ _ _ hd hq' hl hn=>rw [hq] at hq'; cases hq'
     | sl _ _ _ q' es hd hq' hh hvs h1' hn=>
      rw [hq] at hq'; cases hq'
      obtain ⟨e,hei,hse⟩:=hvs.at (kll hy)
      exact klz R hd hag rfl hse (knf he hh hei) hk
    ·exact kaa hk
  ·rename_i id i
   generalize he:ev env x=a at hv
   cases hv with
   | aa _ _ q hN hq h0 h1=>
    split at hk
    ·rename_i T' m t y hB
     split at hk
     ·exact kaa hk
     rename_i hw1
     replace hw1:t.wd=1:=by simpa using hw1
     simp only [jaa] at hk
     obtain ⟨w,hg,hk⟩:=hk
     obtain ⟨_,hy,hlt⟩:=kfE hg
     cases R.blk _ _ hB with
     | el _ _ _ q' cs hd hq' hh hvs h1' hl=>
      rw [hq] at hq'; cases hq'
      have h2:=ksH (k:=1) (f:=t.enc) (fun y=>by rw [kaf t y hd,hw1]) y.l i.toNat w hy
      have h3:=(hvs.drop i.toNat).take 1
      rw [Nat.mul_one] at h2
      replace h3:SnapL z ((cs.drop i.toNat).take 1) (((y.l.map t.enc).flatten.drop i.toNat).take 1):=h3
      rw [h2] at h3
      exact knB (t:=t) (y:=w) (j:=0) R hd hag rfl (koX (id:=id) he hh) (by rw [hw1]; exact h3) hk
    ·exact kaa hk
  ·rename_i t y j
   cases hv with
   | fq _ _ _ _ hd hs=>exact ktK R hd hag rfl hs hk
  ·rename_i t y
   cases hv with
   | c _ _ _ hd hs=>exact ktK (t:=t) (y:=y) (j:=0) R hd hag rfl (by simpa [Ty.av,Ty.agg,Ty.enc] using hs) hk
  ·exact kaa hk
end
section
variable {P:Program} {κ κ':Nat->Option Nat} {ln ln':Nat->Nat} {z z':AH} {c:Cx sem} {s:TS sem} {env:Env} {h h':AH} {n n' N N':Nat}
variable {ρ:Ty} {Kf:TV sem->TS sem->sem.Ans ρ} {r:ρ.den}
variable {d:Option Tmp} {ty:TypeId} {pos:String} {after:Array Edge} {g:Option (Nat×Bool)}
theorem kvN (R:Rel P κ ln z c s env h n) {x:Operand} {v:TV sem} (hv:TVR P κ ln z s.n v (ev env x)) (hk:nilX c s v Kf=some r):Res P κ ln z c s env h n ⟨d,.nilCheck x,ty,pos,after,g⟩ Kf r:=by
 have fin:∀ {w:TV sem},TVR P κ ln z s.n w (ev env x)->liveA h (ev env x)=true->Kf w s=some r->Res P κ ln z c s env h n ⟨d,.nilCheck x,ty,pos,after,g⟩ Kf r:=fun hw hl hk=>R.q (fun K hk=>by simp only [aop]; exact ⟨hl,hk⟩) hw hk
 have live:∀ {a:AV} {cs:List AV},Snap z a (.fp cs)->liveA h a=true:=fun hs=>by
  rcases hs.fp_inv with ⟨cs,he,_⟩ | ⟨id,i,j,k,T,es,e,he,h1,h2,h3⟩
  ·rw [he]; rfl
  ·rw [he]; simp only [liveA,R.zin _ _ h1]; rfl
 unfold nilX at hk
 split at hk
 ·rename_i id j
  split at hk
  ·rename_i hany
   obtain ⟨B,hB,hcb⟩:=(jcm _ _).1 hany
   refine fin hv ?_ hk
   generalize ev env x=a at hv
   cases hv with
   | ptr _ _ q hN hq=>
    simp only [liveA]
    cases R.blk _ _ hB with
    | bx _ _ q' as hq' hh=>rw [hq] at hq'; cases hq'; rw [hh]; rfl
    | el _ _ _ q' cs hd hq' hh=>rw [hq] at hq'; cases hq'; rw [hh]; rfl
    | sl0 _ _ _ _ hq'=>rw [hq] at hq'; cases hq'
    | sl _ _ _ q' cs hd hq' hh=>rw [hq] at hq'; cases hq'; rw [hh]; rfl
    | mp=>simp [kdp] at hcb
    | si=>simp [kdp] at hcb
    | fm0 _ _ _ _ _ _ _ _ hq'=>rw [hq] at hq'; cases hq'
    | fm _ _ _ _ _ _ _ q' _ hd hq' hh=>rw [hq] at hq'; cases hq'; rw [hh]; rfl
  ·exact kaa hk
 ·refine fin hv ?_ hk
  cases hv with | fq _ _ _ _ hd hs=>exact live hs
 ·refine fin hv ?_ hk
  cases hv with | c _ _ _ hd hs=>exact live (cs:=_) (by simpa [Ty.av,Ty.agg,Ty.enc] using hs)
 ·refine fin hv ?_ hk
  generalize ev env x=a at hv
  cases hv; rfl
 ·refine fin hv ?_ hk
  generalize ev env x=a at hv
  cases hv with | cv _ _ _ _ _ hc=>obtain ⟨g,as,rfl,_⟩:=hc; rfl
 ·rename_i id i j
  split at hk
  ·rename_i hany
   obtain ⟨B,hB,hcb⟩:=(jcm _ _).1 hany
   refine fin hv ?_ hk
   generalize ev env x=a at hv
   cases hv with
   | adr _ _ _ q hN hq=>
    simp only [liveA]
    cases R.blk _ _ hB with
    | bx _ _ q' as hq' hh=>rw [hq] at hq'; cases hq'; rw [hh]; rfl
    | el _ _ _ q' cs hd hq' hh=>rw [hq] at hq'; cases hq'; rw [hh]; rfl
    | sl0 _ _ _ _ hq'=>rw [hq] at hq'; cases hq'
    | sl _ _ _ q' cs hd hq' hh=>rw [hq] at hq'; cases hq'; rw [hh]; rfl
    | mp=>simp [kdp] at hcb
    | si=>simp [kdp] at hcb
    | fm0 _ _ _ _ _ _ _ _ hq'=>rw [hq] at hq'; cases hq'
    | fm _ _ _ _ _ _ _ q' _ hd hq' hh=>rw [hq] at hq'; cases hq'; rw [hh]; rfl
  ·exact kaa hk
 ·rename_i t y
  simp only [jaa] at hk
  obtain ⟨w,hw,hk⟩:=hk
  replace hw:y=some w:=hw
  subst hw
  cases hv with
  | c _ _ _ hd hs=>
   have hs':Snap z (ev env x) (.fp (t.enc w)):=by simpa [Ty.av,Ty.agg,Ty.enc,ptrE] using hs
   exact fin (.fq t w 0 _ hd (by simpa using hs')) (live hs') hk
 ·cases hk
 ·exact kaa hk
theorem wk_eq (k:IntKind) (x:Int):wk k x=k.wrap x:=by cases k <;> rfl
theorem kxB (R:Rel P κ ln z c s env h n) {op:BinOp} {T T2:TypeId} {x y:Operand} {k k':IntKind} {a b:Int} (hx:ev env x = .sc (.int k a)) (hy:ev env y = .sc (.int k' b)) (hk:binX P c s op T (.c (.i k) a) (.c (.i k') b) Kf=some r) :
  Res P κ ln z c s env h n ⟨d,.binOp op T x y T2,ty,pos,after,g⟩ Kf r:=by
 have fin:∀ {k2:IntKind} {w:Int},(∀ F:AV->Prop,F (.sc (.int k2 w))->abinI op k a k' b F)->Kf (.c (.i k2) w) s=some r->Res P κ ln z c s env h n ⟨d,.binOp op T x y T2,ty,pos,after,g⟩ Kf r:=fun h1 hk=>
  R.q (fun K hk=>by simp only [aop,hx,hy,abin]; exact h1 _ hk) (.int _ _) hk
 have finB:∀ {w:Bool},(∀ F:AV->Prop,F (.sc (.bool w))->abinI op k a k' b F)->Kf (.c .b w) s=some r->Res P κ ln z c s env h n ⟨d,.binOp op T x y T2,ty,pos,after,g⟩ Kf r:=fun h1 hk=>
  R.q (fun K hk=>by simp only [aop,hx,hy,abin]; exact h1 _ hk) (.bool _) hk
 cases op <;> simp only [binX,ipop,iop,icmp] at hk
 case quo | rem | shl | shr=>
  split at hk
  ·rename_i hc
   simp only [jaa] at hk
   obtain ⟨w,hw,hk⟩:=hk
   simp only [gquo,grem,gshl,gshr] at hw
   split at hw <;> cases hw
   refine fin (fun F hF=>?_) hk
   simp only [abinI]
   simp at hc
   first | exact ⟨hc,by assumption,by rw [wk_eq] at hF; exact hF⟩ | exact ⟨hc,by assumption,hF⟩ | exact ⟨by assumption,by rw [wk_eq] at hF; exact hF⟩ | exact ⟨by assumption,hF⟩
  ·exact kaa hk
 all_goals
  split at hk
  ·rename_i hc
   subst hc
   first
    | exact fin (fun F hF=>⟨rfl,by rw [wk_eq] at hF; exact hF⟩) hk
    | exact fin (fun F hF=>⟨rfl,hF⟩) hk
    | exact finB (fun F hF=>⟨rfl,hF⟩) hk
  ·exact kaa hk
theorem krI (l:List UInt8):(⟨l.toArray⟩:ByteArray).toList=l:=by simp [ByteArray.toList_mk]
theorem kxA (R:Rel P κ ln z c s env h n) {op:BinOp} {T T2:TypeId} {x y:Operand} {a b:List UInt8} (hx:ev env x=str a) (hy:ev env y=str b) (hk:binX P c s op T (.c .s a) (.c .s b) Kf=some r) :
  Res P κ ln z c s env h n ⟨d,.binOp op T x y T2,ty,pos,after,g⟩ Kf r:=by
 have finB:∀ {w:Bool},(∀ F:AV->Prop,F (.sc (.bool w))->abinS op ⟨a.toArray⟩ ⟨b.toArray⟩ F)->Kf (.c .b w) s=some r->Res P κ ln z c s env h n ⟨d,.binOp op T x y T2,ty,pos,after,g⟩ Kf r:=fun h1 hk=>
  R.q (fun K hk=>by simp only [aop,hx,hy,abin,str]; exact h1 _ hk) (.bool _) hk
 cases op <;> simp only [binX,scmp] at hk
 case add=>
  simp only [jaa] at hk
  obtain ⟨w,hw,hk⟩:=hk
  unfold gcat at hw
  split at hw <;> cases hw
  rename_i hle
  refine R.q (fun K hk=>?_) (.str _) hk
  simp only [aop,hx,hy,abin,str,abinS]
  refine ⟨by simpa [ByteArray.size] using hle,?_⟩
  have e:(⟨a.toArray⟩:ByteArray)++⟨b.toArray⟩=⟨(a++b).toArray⟩:=by
   apply ByteArray.ext; simp
  rw [e]; exact hk
 all_goals first
  | (refine finB (fun F hF=>?_) hk; simp only [abinS,krI]; exact hF)
  | exact kaa hk
theorem kne (R:Rel P κ ln z c s env h n) {id q:Nat} {B:TB sem} (hB:thp c s id=some B) (hq:κ id=some q) (hc:kdp B=true):isCells (h q)=true:=by
 cases R.blk _ _ hB with
 | bx _ _ q' as hq' hh=>rw [hq] at hq'; cases hq'; rw [hh]; rfl
 | el _ _ _ q' cs hd hq' hh=>rw [hq] at hq'; cases hq'; rw [hh]; rfl
 | sl0 _ _ _ _ hq'=>rw [hq] at hq'; cases hq'
 | sl _ _ _ q' cs hd hq' hh=>rw [hq] at hq'; cases hq'; rw [hh]; rfl
 | mp=>simp [kdp] at hc
 | si=>simp [kdp] at hc
 | fm0 _ _ _ _ _ _ _ _ hq'=>rw [hq] at hq'; cases hq'
 | fm _ _ _ _ _ _ _ q' _ hd hq' hh=>rw [hq] at hq'; cases hq'; rw [hh]; rfl
theorem kxv (hzin:∀ q B,z q=some B->h q=some B) {a:AV} {cs:List AV} (hs:Snap z a (.fp cs)):(∃ us,a = .fp us/\SnapL z us cs)\/∃ id i j,a = .own id i j/\isCells (h id)=true/\∃ k T es e,z id=some (.cells k T es)/\es[i]?=some e/\SnapL z (e.drop j) cs:=by
 rcases hs.fp_inv with ⟨us,rfl,h1⟩ | ⟨id,i,j,k,T,es,e,rfl,h1,h2,h3⟩
 ·exact .inl ⟨us,rfl,h1⟩
 ·exact .inr ⟨id,i,j,rfl,by rw [hzin _ _ h1]; rfl,k,T,es,e,h1,h2,h3⟩
theorem knI (R:Rel P κ ln z c s env h n) {T ft:TypeId} {x:Operand} {f o j:Nat} {t:Ty} {y:t.den} (hd:t.dat=true) (hf:fldO P T f=some (j,ft)) (hs:Snap z (ev env x) (.fp ((t.enc y).drop o))) (hk:Kf (.fq t y (o+j)) s=some r) :
  Res P κ ln z c s env h n ⟨d,.fieldAddr T x f,ty,pos,after,g⟩ Kf r:=by
 rcases kxv R.zin hs with ⟨us,he,h1⟩ | ⟨id,i,q,he,hc,k,T',es,e,h1,h2,h3⟩
 ·exact R.q (fun K hk=>by simp only [aop,hf,he]; exact hk) (.fq t y _ (.fp (us.drop j)) hd (by rw [<-List.drop_drop]; exact Snap.fpL (h1.drop j))) hk
 ·refine R.q (fun K hk=>by simp only [aop,hf,he]; exact ⟨hc,hk⟩) (.fq t y _ (.own id i (q+j)) hd ?_) hk
  have h4:=h3.drop j
  rw [List.drop_drop,List.drop_drop] at h4
  exact .own id i (q+j) k T' es e _ h1 h2 h4.len h4.at
theorem koS (R:Rel P κ ln z c s env h n) {T:TypeId} {x:Operand} {f:Nat} {v:TV sem} (hv:TVR P κ ln z s.n v (ev env x)) (hk:kly P c s T v f Kf=some r):Res P κ ln z c s env h n ⟨d,.fieldAddr T x f,ty,pos,after,g⟩ Kf r:=by
 unfold kly at hk
 split at hk
 ·exact kaa hk
 ·rename_i j ft hf
  split at hk
  ·rename_i id o
   split at hk
   ·rename_i hany
    obtain ⟨B,hB,hcb⟩:=(jcm _ _).1 hany
    generalize he:ev env x=a at hv
    cases hv with
    | ptr _ _ q hN hq=>exact R.q (fun K hk=>by simp only [aop,hf,he]; exact ⟨kne R hB hq hcb,hk⟩) (.ptr id _ q hN hq) hk
   ·exact kaa hk
  ·rename_i id i o
   split at hk
   ·rename_i hany
    obtain ⟨B,hB,hcb⟩:=(jcm _ _).1 hany
    generalize he:ev env x=a at hv
    cases hv with
    | adr _ _ _ q hN hq h0 h1=>exact R.q (fun K hk=>by simp only [aop,hf,he]; exact ⟨kne R hB hq hcb,hk⟩) (.adr id i _ q hN hq h0 h1) hk
   ·exact kaa hk
  ·cases hv with
   | fq _ _ _ _ hd hs=>exact knI R hd hf hs hk
  ·rename_i t y
   cases hv with
   | c _ _ _ hd hs=>exact knI (t:=t) (y:=y) (o:=0) R hd hf (by simpa [Ty.av,Ty.agg,Ty.enc] using hs) (by rw [jcb]; exact hk)
  ·exact kaa hk
theorem ksU (R:Rel P κ ln z c s env h n) {T:TypeId} {x:Operand} {f:Nat} {v:TV sem} (hv:TVR P κ ln z s.n v (ev env x)) (hk:ktm P s T v f Kf=some r):Res P κ ln z c s env h n ⟨d,.field T x f,ty,pos,after,g⟩ Kf r:=by
 unfold ktm at hk
 split at hk
 ·exact kaa hk
 ·rename_i j ft hf
  split at hk
  ·exact kaa hk
  ·rename_i ag hag
   simp only at hk
   split at hk
   ·rename_i t y
    split at hk
    ·rename_i hta
     generalize he:ev env x=a at hv
     cases hv with
     | c _ _ _ hd hs=>
      rw [kgq hta] at hs
      obtain ⟨cs,rfl,h1⟩:=hs.ag_inv
      unfold partX at hk
      split at hk
      ·rename_i p hc
       obtain ⟨t',y'⟩:=p
       obtain ⟨g1,g2,g3,g4,g5⟩:=khI t y j _ ag cs hd hc h1
       obtain ⟨a,k1,k2,k3⟩:=kls (P:=P) (κ:=κ) (ln:=ln) (N:=s.n) g1 g2 g3 g5 (by simp; omega)
       refine R.q (fun K hk=>?_) k1 hk
       simp only [aop,hf,he,partK,hag]
       cases ag with
       | true=>simp only; rw [<-k2 rfl]; exact hk
       | false=>exact ⟨a,by simpa using k3 rfl,hk⟩
      ·exact kaa hk
    ·exact kaa hk
   ·rename_i vs
    generalize he:ev env x=a at hv
    cases hv with
    | ag _ as hvs h1=>
     have hl:=hvs.len
     split at hk
     ·rename_i hagt
      split at hk
      ·rename_i hle
       refine R.q (fun K hk=>?_) (.ag _ _ ((hvs.drop j).take _) (fun a ha=>h1 a (jda (jco ha)))) hk
       subst hagt
       simp only [aop,hf,he,partK,hag]
       exact hk
      ·exact kaa hk
     ·rename_i hagt
      rw [jch] at hagt; subst hagt
      split at hk
      ·rename_i v hvj
       obtain ⟨a,ha,hva⟩:=hvs.at hvj
       refine R.q (fun K hk=>?_) hva hk
       simp only [aop,hf,he,partK,hag]
       exact ⟨a,ha,hk⟩
      ·exact kaa hk
   ·exact kaa hk
theorem kqM (R:Rel P κ ln z c s env h n) {T:TypeId} {x i:Operand} {v w:TV sem} (hv:TVR P κ ln z s.n v (ev env x)) (hw:TVR P κ ln z s.n w (ev env i)) (hk:kpw P c s T v w Kf=some r):Res P κ ln z c s env h n ⟨d,.indexAddr T x i,ty,pos,after,g⟩ Kf r:=by
 unfold kpw at hk
 split at hk
 ·exact kaa hk
 ·rename_i j hj
  have hi:=hw.i64_inv hj
  split at hk
  ·rename_i t l
   split at hk
   ·exact kaa hk
   ·rename_i hc
    simp only [not_or,Decidable.not_not] at hc
    obtain ⟨hc1,hc2,hc3⟩:=hc
    obtain ⟨e,he⟩:=Option.ne_none_iff_exists'.1 hc1
    rw [he] at hc2
    have hc2:P.cellsOf e=t.wd:=by simpa using hc2
    simp only [jaa] at hk
    obtain ⟨y,hg,hk⟩:=hk
    obtain ⟨h0,hy,hlt⟩:=kfE hg
    generalize hx:ev env x=a at hv
    cases hv with
    | c _ _ _ hd hs=>
     replace hd:t.dat=true:=hd
     replace hs:Snap z a (.sl (l.map t.enc)):=hs
     have hlen:=kaf t y hd
     rcases hs.sl_inv with ⟨es,rfl,h1⟩ | ⟨_,h1⟩ | ⟨id,off,len,k,T',es,rfl,h1,h2,h3⟩
     ·obtain ⟨e',hei,hse⟩:=h1.at (kll hy)
      have hl':=hse.len
      refine R.q (fun K hk=>?_) (.fq t y 0 (.fp e') hd (by rw [jck]; exact Snap.fpL hse)) hk
      simp only [aop,hx,hi,kct,he]
      exact ⟨h0,e',hei,by omega,by omega,hk⟩
     ·simp only [jdl] at h1; subst h1; simp at hlt
     ·obtain ⟨e',hei,hse⟩:=h3.at (kll hy)
      have hl':=hse.len
      rw [jbn] at hei
      split at hei
      ·rename_i hlt'
       rw [jaq] at hei
       have hk':=R.zk _ _ _ _ h1 e' (jag hei)
       refine R.q (fun K hk=>?_) (.fq t y 0 (.own id (off+j.toNat) 0) hd ?_) hk
       ·simp only [aop,hx,hi,kct,he,R.zin _ _ h1]
        exact ⟨h0,by omega,by omega,by omega,hk⟩
       ·rw [jck]
        exact .own id _ 0 k T' es e' _ h1 hei (by simpa using hse.len) (by simpa using hse.at)
      ·cases hei
  ·rename_i id
   split at hk
   ·rename_i T' t l e hB he
    split at hk
    ·rename_i hc
     simp only [jaa] at hk
     obtain ⟨y,hg,hk⟩:=hk
     obtain ⟨h0,hy,hlt⟩:=kfE hg
     generalize hx:ev env x=a at hv
     cases R.blk _ _ hB with
     | sl0 _ _ _ hd hq' hl hn=>subst hl; simp at hlt
     | sl _ _ _ q' es hd hq' hh hvs h1' hn=>
      cases hv with
      | mw0 _ _ hq=>rw [hq'] at hq; cases hq
      | mw _ q hN hq=>
       rw [hq'] at hq; cases hq
       refine R.q (fun K hk=>?_) (.adr id j 0 q' hN hq' h0 (by omega)) hk
       simp only [aop,hx,hi,kct,he,hh]
       exact ⟨h0,by omega,hc.1,hc.2,by rw [jcb]; exact hk⟩
    ·exact kaa hk
   ·exact kaa hk
  ·rename_i id o len
   split at hk
   ·rename_i T' t l e hB he
    split at hk
    ·rename_i hc
     simp only [jaa] at hk
     obtain ⟨y,hg,hk⟩:=hk
     unfold gmi at hg
     split at hg
     ·rename_i hr
      cases hg
      generalize hx:ev env x=a at hv
      cases R.blk _ _ hB with
      | sl0 _ _ _ hd hq' hl hn=>
       cases hv with
       | ms0 _ _ _ _ _ ho hl=>subst hl; omega
       | ms _ _ _ q _ hq=>rw [hq'] at hq; cases hq
      | sl _ _ _ q' es hd hq' hh hvs h1' hn=>
       cases hv with
       | ms0 _ _ _ _ hq=>rw [hq'] at hq; cases hq
       | ms _ _ _ q hN hq h0 h1 h2=>
        rw [hq'] at hq; cases hq
        refine R.q (fun K hk=>?_) (.adr id (o+j) 0 q' hN hq' (by omega) (by omega)) hk
        simp only [aop,hx,hi,kct,he,hh]
        refine ⟨hr.1,by omega,hc.1,hc.2,?_⟩
        rw [show o.toNat+j.toNat=(o+j).toNat by omega]; exact hk
     ·cases hg
    ·exact kaa hk
   ·exact kaa hk
  ·rename_i id o
   split at hk
   ·exact kaa hk
   ·rename_i ho
    obtain rfl:o=0:=by simpa using ho
    split at hk
    ·rename_i T' m t y m' e hB he
     split at hk
     ·rename_i hc
      obtain ⟨rfl,hc2,hc3⟩:=hc
      simp only [jaa] at hk
      obtain ⟨w',hg,hk⟩:=hk
      obtain ⟨h0,hy,hlt⟩:=kfE hg
      rw [y.h] at hlt
      generalize hx:ev env x=a at hv
      cases R.blk _ _ hB with
      | el _ _ _ q' cs hd hq' hh hvs h1' hl=>
       cases hv with
       | ptr _ _ q hN hq=>
        rw [hq'] at hq; cases hq
        refine R.q (fun K hk=>?_) (.aa id j q' hN hq' h0 (by rw [hl _ _ rfl]; exact hlt)) hk
        simp only [aop,hx,hi,kct,he,hh]
        exact ⟨h0,by omega,by omega,by rw [hc3,jcb,Nat.mul_one]; exact hk⟩
     ·exact kaa hk
    ·exact kaa hk
  ·exact kaa hk
end
section
variable {P:Program} {κ κ':Nat->Option Nat} {ln ln':Nat->Nat} {z z':AH} {c:Cx sem} {s:TS sem} {env:Env} {h h':AH} {n n' N N':Nat}
variable {ρ:Ty} {Kf:TV sem->TS sem->sem.Ans ρ} {r:ρ.den}
variable {d:Option Tmp} {ty:TypeId} {pos:String} {after:Array Edge} {g:Option (Nat×Bool)}
theorem krK {v:TV sem} {a:AV} (hv:TVR P κ ln z N v a) {vs:List (TV sem)} (hc:kaz v=some vs) {as:List AV} (h1:kax a=some as):∀ b∈as,b.one=true:=by
 intro b hb
 cases hv with
 | c t x a hd hs=>
  obtain ⟨cs,h3,h4⟩:=kjr hd hs
  rw [h1] at h3; cases h3
  exact h4.one_rev (kaQ t x hd) b hb
 | ag vs' as' _ h5=>cases h1; exact h5 b hb
 | un | ud | tp | gs | yl | kp=>simp [kaz] at hc
 | sc w hw=>cases h1; simp at hb; subst hb; exact hw
 | fq t x o a hd hs=>rcases hs.fp_inv with ⟨cs,rfl,_⟩ | ⟨id,i,j,k,T,es,e,rfl,_⟩ <;> (cases h1; simp at hb; subst hb; rfl)
 | cv m x y F a hcv=>obtain ⟨g,as',rfl,_⟩:=hcv; cases h1; simp at hb; subst hb; rfl
 | _=>cases h1; simp at hb; subst hb; rfl
theorem kfN (R:Rel P κ ln z c s env h n) {v:TV sem} {a:AV} (hv:TVR P κ ln z s.n v a) {t:Ty} {y:t.den} {ids:List Nat} (hs:snapV (A:=sem) c s t v=some (y,ids)):∃ xs,kax a=some xs/\SnapL (hz (ows κ ln c s) h z ids) xs (t.enc y)/\t.dat=true:=by
 obtain ⟨hd,h1,_⟩:=kbf R hv hs
 obtain ⟨cs,h2,h3⟩:=kjr hd h1
 exact ⟨cs,h2,h3,hd⟩
theorem kcK {s:TS sem} {id:Nat} {B:TB sem} (h:ownB s id=some B):alk s.hp id=some (some B):=by
 unfold ownB at h
 cases hb:alk s.hp id with
 | none=>rw [hb] at h; cases h
 | some b=>rw [hb] at h; simp only at h; rw [h]
theorem knt {es es':List (List AV)} (hs:SnapE z es es') {i:Nat} {e e':List AV} (he:SnapL z e e'):SnapE z (es.set i e) (es'.set i e'):=by
 refine ⟨by simp [hs.1],fun q x x' hq hq'=>?_⟩
 rw [List.getElem?_set] at hq hq'
 split at hq
 ·rename_i hiq
  rw [if_pos hiq] at hq'
  split at hq
  ·cases hq
   split at hq'
   ·cases hq'; exact he
   ·cases hq'
  ·cases hq
 ·rename_i hiq
  rw [if_neg hiq] at hq'
  exact hs.2 q x x' hq hq'
theorem kte {es:List (List AV)} {i:Nat} {e:List AV} (h:∀ e∈es,∀ a∈e,a.one=true) (he:∀ a∈e,a.one=true):∀ x∈es.set i e,∀ a∈x,a.one=true:=by
 intro x hx a ha
 rcases List.mem_or_eq_of_mem_set hx with hx | rfl
 ·exact h x hx a ha
 ·exact he a ha
theorem ktU (R:Rel P κ ln z c s env h n) {T:TypeId} {p x:Operand} {u v:TV sem} (hu:TVR P κ ln z s.n u (ev env p)) (hv:TVR P κ ln z s.n v (ev env x)) (hk:ksS P c s T u v Kf=some r):Res P κ ln z c s env h n ⟨d,.store T p x,ty,pos,after,g⟩ Kf r:=by
 unfold ksS at hk
 simp only at hk
 split at hk
 ·exact kaa hk
 ·rename_i ag hag
  split at hk
  ·exact kaa hk
  ·rename_i hm0
   have hval:∀ (xs:List AV),kax (ev env x)=some xs->∀ t y,((snapV (A:=sem) c s t v).bind fun y=>if y.2.isEmpty then some y.1 else none)=some y->t.dat=true/\SnapL z xs (t.enc y):=fun xs hxs t y hy=>by
    simp only [jaa] at hy
    obtain ⟨⟨w,ids⟩,hw,hy⟩:=hy
    split at hy
    ·rename_i hem
     cases hy
     obtain rfl:=jcp.1 hem
     obtain ⟨xs',h1,h2,h3⟩:=kfN R hv hw
     rw [hxs] at h1; cases h1
     rw [kbe] at h2
     exact ⟨h3,h2⟩
    ·cases hy
   have hex:∀ t y,((snapV (A:=sem) c s t v).bind fun y=>if y.2.isEmpty then some y.1 else none)=some y->∃ xs,kax (ev env x)=some xs:=fun t y hy=>by
    simp only [jaa] at hy
    obtain ⟨⟨w,ids⟩,hw,hy⟩:=hy
    obtain ⟨xs',h1,h2,h3⟩:=kfN R hv hw
    exact ⟨xs',h1⟩
   split at hk
   ·rename_i id j
    split at hk
    ·rename_i T' vs hB
     replace hB:=kcK hB
     split at hk
     ·rename_i xs hxs
      split at hk
      ·rename_i hc
       obtain ⟨as',h1,h2⟩:=hv.one_cells hxs
       have h1o:=krK hv hxs h1
       have hl2:=h2.len
       generalize he:ev env p=a at hu
       cases hu with
       | ptr _ _ q hN hq=>
        cases R.blk _ _ (kab hB) with
        | bx _ _ q' as hq' hh hvs ho=>
         rw [hq] at hq'; cases hq'
         have hl:=hvs.len
         have hnew:BR P κ ln z (updH h q (.cells vs.length T' [putAt as j as'])) s.n id (.bx T' (vs.take j++xs++vs.drop (j+P.cellsOf T))):=by
          refine .bx _ _ q (as.take j++as'++as.drop (j+P.cellsOf T)) hq ?_ (((hvs.take j).append h2).append (hvs.drop _)) ?_
          ·simp only [updH,if_true]
           rw [kbx (by omega),hl2,hc.1]
           congr 2
           simp; omega
          ·intro b hb
           rcases jaz.1 hb with hb | hb
           ·rcases jaz.1 hb with hb | hb
            ·exact ho b (jco hb)
            ·exact h1o b hb
           ·exact ho b (jda hb)
         exact ⟨.ud,_,.ud,_,_,κ,ln,z,fun K hk=>by
          simp only [aop,he,kbz,hh,h1]
          exact ⟨by omega,by omega,by omega,hk⟩,hk,R.set hB hq hnew,.ud,jah _,fun _ _=>⟨rfl,fun _=>rfl⟩,fun hc=>by cases hc⟩
      ·exact kaa hk
     ·exact kaa hk
    ·rename_i T' t y hB
     replace hB:=kcK hB
     split at hk
     ·rename_i y' hy'
      generalize he:ev env p=a at hu
      cases hu with
      | ptr _ _ q hN hq=>
       cases R.blk _ _ (kab hB) with
       | el _ _ _ q' cs hd hq' hh hvs ho hl=>
        rw [hq] at hq'; cases hq'
        have ⟨xs,hxs⟩:∃ xs,kax (ev env x)=some xs:=by
         cases hca:kax (ev env x) with
         | some xs=>exact ⟨xs,rfl⟩
         | none=>
          exfalso
          have:=kcE (z:=z) (xs:=[]) (val:=fun t=>(snapV (A:=sem) c s t v).bind fun y=>if y.2.isEmpty then some y.1 else none) (fun t y hy=>by obtain ⟨xs,h⟩:=hex t y hy; rw [hca] at h; cases h) t y j _ ag cs hd hy' hvs
          simp at this
          omega
        obtain ⟨g1,g2,g3⟩:=kcE (z:=z) (hval xs hxs) t y j _ ag cs hd hy' hvs
        have hone:∀ b∈xs,b.one=true:=by
         intro b hb
         have:b∈cs.take j++xs++cs.drop (j+P.cellsOf T):=by simp [hb]
         exact g3.one_rev (kaQ t y' hd) b this
        have hnew:BR P κ ln z (updH h q (.cells t.wd T' [putAt cs j xs])) s.n id (.el T' t y'):=by
         rw [kbx (by omega),g1]
         refine .el _ _ _ q _ hd hq (by simp [updH]) g3 (g3.one_rev (kaQ t y' hd)) hl
        exact ⟨.ud,_,.ud,_,_,κ,ln,z,fun K hk=>by
         simp only [aop,he,kbz,hh,hxs]
         exact ⟨by omega,by omega,by omega,hk⟩,hk,R.set hB hq hnew,.ud,jah _,fun _ _=>⟨rfl,fun _=>rfl⟩,fun hc=>by cases hc⟩
     ·exact kaa hk
    ·exact kaa hk
   ·rename_i id i j
    split at hk
    ·rename_i T' t l hB
     replace hB:=kcK hB
     generalize he:ev env p=a at hu
     cases hu with
     | adr _ _ _ q hN hq h0 h1=>
      cases R.blk _ _ (kab hB) with
      | sl0 _ _ _ _ hq'=>rw [hq] at hq'; cases hq'
      | sl _ _ _ q' es hd hq' hh hvs ho hn=>
       rw [hq] at hq'; cases hq'
       have hlen:=hvs.1
       rw [jar,hn] at hlen
       obtain ⟨e,hei⟩:∃ e,es[i.toNat]?=some e:=⟨es[i.toNat]'(by omega),jae _⟩
       obtain ⟨y0,hy0⟩:∃ y0,l[i.toNat]?=some y0:=⟨l[i.toNat]'(by omega),jae _⟩
       have hse:=hvs.2 _ _ _ hei (kll hy0)
       have hel:=hse.len
       rw [kaf t y0 hd] at hel
       split at hk
       ·rename_i hc
        obtain ⟨rfl,hm,rfl⟩:=hc
        split at hk
        ·rename_i y ids hy
         split at hk
         ·rename_i s' hs'
          split at hk
          ·exact kaa hk
          ·rename_i hnid
           replace hnid:id∉ids:=by simpa using hnid
           obtain ⟨R',e1,e2,e3,e4,e5⟩:=R.retire hs'
           have hB':=e3 id _ hB hnid
           obtain ⟨xs,hxs,hsx,_⟩:=kfN R hv hy
           have hxl:=hsx.len
           rw [kaf t y hd] at hxl
           have hnew:BR P κ ln (hz (ows κ ln c s) h z ids) (updH h q (.cells t.wd T' (es.set i.toNat (putAt e 0 xs)))) s'.n id (.sl T' t (lset l i y)):=by
            rw [kbx (by omega),jdi,jba,jcb,jbq (by omega),jbd]
            refine .sl _ _ _ q (es.set i.toNat xs) hd hq (by simp [updH]) ?_ (kte ho (hsx.one_rev (kaQ t y hd))) (by simp [lset]; exact hn)
            rw [lset,List.map_set]
            exact knt (hvs.mono (hz_z R.zin)) hsx
           exact ⟨.ud,_,.ud,_,_,κ,ln,_,fun K hk=>by
            simp only [aop,he,kbz,hh,hxs,hei]
            exact ⟨by omega,by omega,by omega,hk⟩,hk,R'.set hB' hq hnew,.ud,by simp [e2],fun _ _=>⟨rfl,fun _=>rfl⟩,fun hc=>by cases hc⟩
         ·exact kaa hk
        ·exact kaa hk
       ·simp only [jaa] at hk
        obtain ⟨y1,hg,hk⟩:=hk
        obtain ⟨_,hy1,_⟩:=kfE hg
        rw [hy0] at hy1; cases hy1
        split at hk
        ·rename_i y' hy'
         have ⟨xs,hxs⟩:∃ xs,kax (ev env x)=some xs:=by
          cases hca:kax (ev env x) with
          | some xs=>exact ⟨xs,rfl⟩
          | none=>
           exfalso
           have:=kcE (z:=z) (xs:=[]) (val:=fun t=>(snapV (A:=sem) c s t v).bind fun y=>if y.2.isEmpty then some y.1 else none) (fun t y hy=>by obtain ⟨xs,h⟩:=hex t y hy; rw [hca] at h; cases h) t y0 j _ ag e hd hy' hse
           simp at this
           omega
         obtain ⟨g1,g2,g3⟩:=kcE (z:=z) (hval xs hxs) t y0 j _ ag e hd hy' hse
         have hnew:BR P κ ln z (updH h q (.cells t.wd T' (es.set i.toNat (putAt e j xs)))) s.n id (.sl T' t (lset l i y')):=by
          rw [kbx (by omega),g1]
          refine .sl _ _ _ q (es.set i.toNat (e.take j++xs++e.drop (j+P.cellsOf T))) hd hq (by simp [updH]) ?_ (kte ho (g3.one_rev (kaQ t y' hd))) (by simp [lset]; exact hn)
          rw [lset,List.map_set]
          exact knt hvs g3
         exact ⟨.ud,_,.ud,_,_,κ,ln,z,fun K hk=>by
          simp only [aop,he,kbz,hh,hxs,hei]
          exact ⟨by omega,by omega,by omega,hk⟩,hk,R.set hB hq hnew,.ud,jah _,fun _ _=>⟨rfl,fun _=>rfl⟩,fun hc=>by cases hc⟩
        ·exact kaa hk
    ·exact kaa hk
   ·rename_i id i
    split at hk
    ·rename_i T' m t y hB
     replace hB:=kcK hB
     split at hk
     ·exact kaa hk
     ·rename_i hc
      simp only [not_or,Decidable.not_not] at hc
      split at hk
      ·rename_i w hw
       generalize he:ev env p=a at hu
       cases hu with
       | aa _ _ q hN hq h0 h1=>
        cases R.blk _ _ (kab hB) with
        | el _ _ _ q' cs hd hq' hh hvs ho hl=>
         rw [hq] at hq'; cases hq'
         obtain ⟨xs,hxs,hsx,hdt⟩:=kfN R hv hw
         rw [kbe] at hsx
         have hxl:=hsx.len
         rw [kaf t w hdt,hc.1] at hxl
         have hlt:i.toNat<m:=by rw [<-hl _ _ rfl]; exact h1
         have hcl:=hvs.len
         rw [kaf (.ar m t) y hd] at hcl
         simp only [Ty.wd,hc.1,Nat.mul_one] at hcl
         have one1:∀ y:t.den,∃ a,t.enc y=[a]:=fun y=>by
          have:=kaf t y hdt
          rw [hc.1] at this
          match hh:t.enc y,this with
          | [a],_=>exact ⟨a,rfl⟩
         have setf:∀ (l:List t.den) (k:Nat),k<l.length->((l.set k w).map t.enc).flatten=(l.map t.enc).flatten.take k++t.enc w++(l.map t.enc).flatten.drop (k+1):=by
          intro l
          induction l with
          | nil=>intro k hk; simp at hk
          | cons b l ih=>
           intro k hk
           obtain ⟨a,ha⟩:=one1 b
           cases k with
           | zero=>simp [ha]
           | succ k=>
            have:=ih k (by simpa using hk)
            rw [List.set_cons_succ,jap,List.flatten_cons,jap,List.flatten_cons,ha,this]
            simp
         have hsn:SnapL z (cs.take i.toNat++xs++cs.drop (i.toNat+1)) ((Ty.ar m t).enc (aset y i w)):=by
          show SnapL z _ (((y.l.set i.toNat w).map t.enc).flatten)
          rw [setf y.l i.toNat (by rw [y.h]; exact hlt)]
          exact ((hvs.take _).append hsx).append (hvs.drop _)
         have hnew:BR P κ ln z (updH h q (.cells (Ty.ar m t).wd T' [putAt cs i.toNat xs])) s.n id (.el T' (.ar m t) (aset y i w)):=by
          rw [kbx (by omega),<-hxl]
          exact .el _ _ _ q _ hd hq (by simp [updH]) hsn (hsn.one_rev (kaQ (.ar m t) _ hd)) hl
         exact ⟨.ud,_,.ud,_,_,κ,ln,z,fun K hk=>by
          simp only [aop,he,kbz,hh,hxs]
          exact ⟨by omega,by omega,by omega,hk⟩,hk,R.set hB hq hnew,.ud,jah _,fun _ _=>⟨rfl,fun _=>rfl⟩,fun hc=>by cases hc⟩
      ·exact kaa hk
    ·exact kaa hk
   ·exact kaa hk
theorem kwA (R:Rel P κ ln z c s env h n) {op:UnOp} {T:TypeId} {x:Operand} {v:TV sem} (hv:TVR P κ ln z s.n v (ev env x)) (hk:unX s op v Kf=some r):Res P κ ln z c s env h n ⟨d,.unOp op T x,ty,pos,after,g⟩ Kf r:=by
 unfold unX at hk
 generalize hx:ev env x=a at hv
 split at hk
 ·cases hv
  exact R.q (fun K hk=>by simp only [aop,hx,unK]; exact hk) (.kb _) hk
 ·rw [hv.b_inv] at hx
  exact R.q (fun K hk=>by simp only [aop,hx,unK]; exact hk) (.bool _) hk
 ·rw [hv.i_inv] at hx
  exact R.q (fun K hk=>by simp only [aop,hx,unK]; rw [<-wk_eq]; exact hk) (.int _ _) hk
 ·exact kaa hk
theorem kuE (R:Rel P κ ln z c s env h n) {S T:TypeId} {x:Operand} {v:TV sem} (hv:TVR P κ ln z s.n v (ev env x)) (hk:convX P s S T v Kf=some r):Res P κ ln z c s env h n ⟨d,.convert S T x,ty,pos,after,g⟩ Kf r:=by
 unfold convX at hk
 generalize hx:ev env x=a at hv
 split at hk
 ·rename_i k y k' hT
  split at hk
  ·rename_i hS
   rw [hv.i_inv] at hx
   exact R.q (fun K hk=>by simp only [aop,hx,convK,hT]; rw [<-wk_eq]; exact ⟨hS,hk⟩) (.int _ _) hk
  ·exact kaa hk
 ·rename_i x hT
  split at hk
  ·rename_i hc
   simp only [jac,jbi] at hc
   obtain ⟨⟨hdy,hs⟩,hb⟩:=hc
   have hz:=R.dy hdy
   subst hz
   refine R.q (fun K hk=>?_) (.str _) hk
   obtain ⟨e,he1,he2⟩:=kxb hb
   have hs:=kgZ hs
   simp only [aop,hx]
   cases hv with
   | c _ _ _ hd hsn=>
    replace hsn:Snap (fun _=>none) a (.sl (x.map (Ty.i .u8).enc)):=hsn
    rcases hsn.sl_inv with ⟨es,rfl,h1⟩ | ⟨rfl,h1⟩ | ⟨id,off,len,k,T',es,rfl,h1,h2,h3⟩
    ·refine ⟨⟨e,he1,he2⟩,hs,x,?_,hk⟩
     refine List.ext_getElem? fun q=>?_
     cases hq:es[q]? with
     | none=>
      have:es.length<=q:=List.getElem?_eq_none_iff.1 hq
      rw [jaw,jdv (by have:=h1.1; simp at this; omega)]; rfl
     | some y=>
      have hlt:=(jad.1 hq).1
      have hl:=h1.1
      simp only [jar] at hl
      have hxq:x[q]?=some (x[q]'(by omega)):=jae _
      have h4:=h1.2 q y _ hq (by rw [jaw,hxq]; rfl)
      rw [jaw,hxq]
      cases h4 with
      | cons h5 h6=>cases h6; rw [h5.sc_inv]; rfl
    ·obtain rfl:x=[]:=by simpa using h1
     have hS':P.underlying S=some (.slice e):=by
      unfold elemO at he1; split at he1
      ·cases he1; assumption
      ·cases he1
     exact ⟨_,fun w=>by rw [run_convert_bytes_string w S T e none 0 0 hS' he2 hs]; rfl,rfl,hk⟩
    ·cases h1
  ·exact kaa hk
 ·exact kaa hk
theorem krW (R:Rel P κ ln z c s env h n) {mx:Bool} {T:Array TypeId} {x y:Operand} {u v:TV sem} (hu:TVR P κ ln z s.n u (ev env x)) (hv:TVR P κ ln z s.n v (ev env y)) (hk:mmX mx s u v Kf=some r) :
  Res P κ ln z c s env h n ⟨d,.call ⟨.builtin (if mx then .max else .min),#[x,y],T⟩,ty,pos,after,g⟩ Kf r:=by
 unfold mmX at hk
 generalize hx:ev env x=a at hu
 generalize hy:ev env y=b at hv
 split at hk
 ·rename_i k i k' j
  split at hk
  ·rename_i e
   subst e
   rw [hu.i_inv] at hx
   rw [hv.i_inv] at hy
   cases mx
   ·exact R.q (fun K hk=>by simp only [aop,kah,jaj,if_false,if_true]; rw [hx,hy]; exact ⟨rfl,hk⟩) (.int _ _) hk
   ·exact R.q (fun K hk=>by simp only [aop,kah,jaj,if_false,if_true]; rw [hx,hy]; exact ⟨rfl,hk⟩) (.int _ _) hk
  ·exact kaa hk
 ·exact kaa hk
theorem kqq (R:Rel P κ ln z c s env h n) {mx:Bool} {T:Array TypeId} {x y q:Operand} {u v w:TV sem} (hu:TVR P κ ln z s.n u (ev env x)) (hv:TVR P κ ln z s.n v (ev env y)) (hw:TVR P κ ln z s.n w (ev env q)) (hk:(mmX mx s u v fun u s'=>mmX mx s' u w Kf)=some r) :
  Res P κ ln z c s env h n ⟨d,.call ⟨.builtin (if mx then .max else .min),#[x,y,q],T⟩,ty,pos,after,g⟩ Kf r:=by
 unfold mmX at hk
 generalize hx:ev env x=a at hu
 generalize hy:ev env y=b at hv
 generalize hq:ev env q=e at hw
 split at hk
 ·rename_i k i k' j
  split at hk
  ·rename_i e
   subst e
   cases w <;> first | exact kaa hk | skip
   rename_i t l
   cases t <;> first | exact kaa hk | skip
   rename_i k2
   simp only at hk
   split at hk
   ·rename_i e
    subst e
    rw [hu.i_inv] at hx
    rw [hv.i_inv] at hy
    rw [hw.i_inv] at hq
    cases mx
    ·exact R.q (fun K hk=>by simp only [aop,kah,jaj,if_false,if_true]; rw [hx,hy,hq]; exact ⟨⟨rfl,rfl⟩,hk⟩) (.int _ _) hk
    ·exact R.q (fun K hk=>by simp only [aop,kah,jaj,if_false,if_true]; rw [hx,hy,hq]; exact ⟨⟨rfl,rfl⟩,hk⟩) (.int _ _) hk
   ·exact kaa hk
  ·exact kaa hk
 ·exact kaa hk
theorem kov (R:Rel P κ ln z c s env h n) {T e:TypeId} {m0:Nat} {x i:Operand} {vs:List (TV sem)} {as:List AV} (hx:ev env x = .ag as) (hvs:TVRs P κ ln z s.n vs as) (hone:∀ a∈as,a.one=true) {j:Int} (hi:ev env i = .sc (.int .i64 j)) (he:arrO P T=some (m0,e)) {ag:Bool} (hag:aggO P e=some ag) (hc0:P.cellsOf e≠0) (hl:vs.length=m0*P.cellsOf e) :
  ∀ (f k:Nat),k+f=m0->idxAg (A:=sem) s (P.cellsOf e) ag vs j Kf f k=some r->Res P κ ln z c s env h n ⟨d,.index T x i,ty,pos,after,g⟩ Kf r
 | 0,k,hk,h=>by cases h
 | f+1,k,hkm,hh=>by
  simp only [idxAg] at hh
  rcases kcr hh with ⟨hb,hk⟩ | ⟨hb,hk⟩
  ·have hjk:j=(k:Int):=of_decide_eq_true hb
   subst hjk
   cases ag with
   | true=>
    refine R.q (fun K hK=>?_) (.ag _ _ ((hvs.drop _).take _) fun a ha=>hone a (jda (jco ha))) hk
    simp only [aop,hx,hi,idxK,he,partK,hag]
    exact ⟨by omega,by omega,hc0,by rw [jbj]; exact hK⟩
   | false=>
    simp only at hk
    split at hk
    ·rename_i v hv
     obtain ⟨a,h1,h2⟩:=hvs.at hv
     refine R.q (fun K hK=>?_) h2 hk
     simp only [aop,hx,hi,idxK,he,partK,hag]
     exact ⟨by omega,by omega,hc0,a,by rw [jbj]; exact h1,hK⟩
    ·exact kaa hk
  ·exact kov R hx hvs hone hi he hag hc0 hl f (k+1) (by omega) hk
theorem kwb (R:Rel P κ ln z c s env h n) {T:TypeId} {x i:Operand} {v w:TV sem} (hv:TVR P κ ln z s.n v (ev env x)) (hw:TVR P κ ln z s.n w (ev env i)) (hk:idxX P s T v w Kf=some r):Res P κ ln z c s env h n ⟨d,.index T x i,ty,pos,after,g⟩ Kf r:=by
 unfold idxX at hk
 split at hk
 ·rename_i l
  split at hk
  ·exact kaa hk
  ·rename_i k j hj
   have hi:ev env i = .sc (.int k j):=by
    unfold getI at hj
    split at hj
    ·cases hj
     generalize ev env i=b at hw
     cases hw with | c _ _ _ hd hs=>exact hs.sc_inv
    ·cases hj
   generalize hx:ev env x=a at hv
   split at hk
   ·rename_i hT
    replace hT:=kgZ hT
    simp only [jaa] at hk
    obtain ⟨y,hg,hk⟩:=hk
    simp only [gstr,jab] at hg
    obtain ⟨b,hg,rfl⟩:=hg
    rw [hv.s_inv] at hx
    exact R.q (fun K hk=>kyA (l:=l) hT hx hi hg hk) (.int _ _) hk
   ·exact kaa hk
 split at hk
 ·exact kaa hk
 ·rename_i j hj
  have hi:=hw.i64_inv hj
  generalize hx:ev env x=a at hv
  split at hk
  ·rename_i m t y hov
   split at hk
   ·rename_i m' e he
    split at hk
    ·rename_i hc
     obtain ⟨rfl,hw1,hw0,hag⟩:=hc
     simp only [jaa] at hk
     obtain ⟨w',hg,hk⟩:=hk
     obtain ⟨h0,hy,hlt⟩:=kfE hg
     rw [y.h] at hlt
     cases hv with
     | c _ _ _ hd hs=>
      rw [kgq rfl] at hs
      obtain ⟨cs,rfl,h1⟩:=hs.ag_inv
      replace hd:t.dat=true:=hd
      have h2:=ksH (k:=t.wd) (f:=t.enc) (fun y=>kaf t y hd) y.l j.toNat w' hy
      have h3:=(h1.drop (j.toNat*t.wd)).take t.wd
      replace h3:SnapL z ((cs.drop (j.toNat*t.wd)).take t.wd) (((y.l.map t.enc).flatten.drop (j.toNat*t.wd)).take t.wd):=h3
      rw [h2] at h3
      have h4:=h3.len
      rw [kaf t w' hd,jbh] at h4
      obtain ⟨a,k1,k2,k3⟩:=kls (P:=P) (κ:=κ) (ln:=ln) (N:=s.n) hd rfl rfl h3 (by omega)
      refine R.q (fun K hk=>?_) k1 hk
      simp only [aop,hx,hi,idxK,he,partK,hag]
      refine ⟨h0,by omega,by omega,?_⟩
      cases hag':t.agg with
      | true=>simp only; rw [<-hw1,<-k2 hag']; exact hk
      | false=>simp only; exact ⟨a,by rw [<-hw1]; simpa using k3 hag',hk⟩
    ·exact kaa hk
   ·exact kaa hk
  ·rename_i vs
   split at hk
   ·rename_i m e he
    split at hk
    ·rename_i ag hag
     split at hk
     ·rename_i hc
      cases hv with
      | ag _ as hvs hone=>exact kov R hx hvs hone hi he hag hc.1 hc.2 m 0 (by omega) hk
     ·exact kaa hk
    ·exact kaa hk
   ·exact kaa hk
  ·exact kaa hk
theorem kwf (R:Rel P κ ln z c s env h n) {T:TypeId} {x:Operand} {v:TV sem} (hv:TVR P κ ln z s.n v (ev env x)) (hk:lenX P c s T v Kf=some r):Res P κ ln z c s env h n ⟨d,.call ⟨.builtin .len,#[x],#[T]⟩,ty,pos,after,g⟩ Kf r:=by
 unfold lenX at hk
 generalize hx:ev env x=a at hv
 split at hk
 ·rename_i t l
  split at hk
  ·rename_i he
   refine R.q (fun K hk=>?_) (.int _ _) hk
   simp only [aop,kah,hx]
   replace hk:K (.sc (.int .i64 (l.length:Int))) h n:=hk
   cases hv with
   | c _ _ _ hd hs=>
    replace hs:Snap z a (.sl (l.map t.enc)):=hs
    rcases hs.sl_inv with ⟨es,rfl,h1⟩ | ⟨rfl,h1⟩ | ⟨id,off,len,k,T',es,rfl,h1,h2,h3⟩
    ·have hl:=h1.1
     rw [jar] at hl
     simp only [lenK]
     exact ⟨he,fun _=>by rw [<-hl]; exact hk⟩
    ·simp only [jdl] at h1; subst h1
     simp only [lenK]
     exact ⟨he,hk⟩
    ·have hl:=h3.1
     rw [jar,jbh,jdo] at hl
     have hl':l.length=len:=by omega
     simp only [lenK,R.zin _ _ h1]
     exact ⟨he,rfl,fun _=>by rw [<-hl']; exact hk⟩
  ·exact kaa hk
 ·rename_i id
  split at hk
  ·rename_i T' t l hB
   split at hk
   ·rename_i he
    refine R.q (fun K hk=>?_) (.int _ _) hk
    simp only [aop,kah,hx]
    replace hk:K (.sc (.int .i64 (l.length:Int))) h n:=hk
    cases R.blk _ _ hB with
    | sl0 _ _ _ hd hq' hl hn=>
     subst hl
     cases hv with
     | mw0=>simp only [lenK]; exact ⟨he,hk⟩
     | mw _ q _ hq=>rw [hq'] at hq; cases hq
    | sl _ _ _ q' es hd hq' hh hvs h1' hn=>
     cases hv with
     | mw0 _ _ hq=>rw [hq'] at hq; cases hq
     | mw _ q _ hq=>
      rw [hq'] at hq; cases hq
      simp only [lenK,hh]
      exact ⟨he,rfl,fun _=>by rw [<-hn]; exact hk⟩
   ·exact kaa hk
  ·exact kaa hk
 ·rename_i id o len
  split at hk
  ·rename_i T' t l hB
   split at hk
   ·rename_i he
    refine R.q (fun K hk=>?_) (.int _ _) hk
    simp only [aop,kah,hx]
    cases R.blk _ _ hB with
    | sl0 _ _ _ hd hq' hl hn=>
     subst hl
     cases hv with
     | ms0 _ _ _ _ _ ho hl=>subst hl; simp only [lenK]; exact ⟨he,hk⟩
     | ms _ _ _ q _ hq=>rw [hq'] at hq; cases hq
    | sl _ _ _ q' es hd hq' hh hvs h1' hn=>
     cases hv with
     | ms0 _ _ _ _ hq=>rw [hq'] at hq; cases hq
     | ms _ _ _ q _ hq h0 h1 h2=>
      rw [hq'] at hq; cases hq
      simp only [lenK,hh]
      refine ⟨he,rfl,fun _=>?_⟩
      rw [show ((len.toNat:Nat):Int)=len from Int.toNat_of_nonneg h1]; exact hk
   ·exact kaa hk
  ·exact kaa hk
 ·rename_i u
  split at hk
  ·rename_i hc
   obtain ⟨hc,he⟩:=hc
   cases hv
   rw [kaK hc] at hx
   refine R.q (fun K hk=>?_) (.int _ _) hk
   simp only [aop,kah,hx,lenK]
   exact ⟨he,hk⟩
  ·exact kaa hk
 ·rename_i l
  split at hk
  ·rename_i hT
   replace hT:=kgZ hT
   rw [hv.s_inv] at hx
   exact R.q (fun K hk=>kxW (l:=l) hT hx hk) (.int _ _) hk
  ·exact kaa hk
 ·rename_i id
  split at hk
  ·rename_i k v' l hB
   split at hk
   ·rename_i hT
    obtain ⟨k1,v1,hT⟩:=kxg hT
    cases R.blk _ _ hB with
    | mp _ _ _ q hk' hf hq hh=>
     cases hv with
     | mp _ q' _ hq'=>
      rw [hq] at hq'; cases hq'
      refine R.q (fun K hk=>?_) (.int _ _) hk
      simp only [aop,kah,hx,lenK,hh,hT,jar]
      exact hk
   ·exact kaa hk
  ·exact kaa hk
 ·exact kaa hk
theorem kwY {lo:Option Operand} {l:Int} (hlo:∀ x,TVR P κ ln z s.n (tev c s x) (ev env x)) (h:loD (lo.map (tev c s))=some l):loA (lo.map (ev env))=some l:=by
 cases lo with
 | none=>cases h; rfl
 | some x=>simp only [jcg] at h ⊢; rw [(hlo x).i64_inv h]; rfl
theorem kkm {hi:Option Operand} {l:Int} {m:Nat} (hlo:∀ x,TVR P κ ln z s.n (tev c s x) (ev env x)) (h:hiD (A:=sem) (hi.map (tev c s)) (m:Int)=some l):hiA m (hi.map (ev env))=some l:=by
 cases hi with
 | none=>cases h; rfl
 | some x=>simp only [jcg] at h ⊢; rw [(hlo x).i64_inv h]; rfl
end
section
variable {P:Program} {κ κ':Nat->Option Nat} {ln ln':Nat->Nat} {z z':AH} {c:Cx sem} {s:TS sem} {env:Env} {h h':AH} {n n' N N':Nat}
variable {ρ:Ty} {Kf:TV sem->TS sem->sem.Ans ρ} {r:ρ.den}
variable {d:Option Tmp} {ty:TypeId} {pos:String} {after:Array Edge} {g:Option (Nat×Bool)}
theorem SnapE.heads {t:Ty} {l:List t.den} {es:List (List AV)} (hd:t.dat=true) (hs:SnapE z es (l.map t.enc)):∀ e∈es,e.length=t.wd:=by
 intro e he
 obtain ⟨i,hi⟩:=jcz he
 have hlt:=(jad.1 hi).1
 have hlen:=hs.1
 rw [jar] at hlen
 have:=(hs.2 i e _ hi (by rw [jaw,jae (by omega)]; rfl)).len
 rw [kaf t _ hd] at this; exact this.symm
theorem SnapE.td {es es':List (List AV)} (h:SnapE z es es') (o m:Nat):SnapE z ((es.take m).drop o) ((es'.take m).drop o):=by
 refine ⟨by simp [h.1],fun q e e' hq hq'=>?_⟩
 rw [jaq,jbn] at hq hq'
 split at hq
 ·rename_i hlt
  rw [if_pos hlt] at hq'
  exact h.2 _ e e' hq hq'
 ·cases hq
theorem kpk {l u:Int} {m:Nat} (g1:0<=l) (g2:l<=u) (g3:u<=(m:Int)) (hm:m=0):l=0/\u=0:=by omega
theorem kul (R:Rel P κ ln z c s env h n) {T:TypeId} {x:Operand} {lo hi:Option Operand} {v:TV sem} (hv:TVR P κ ln z s.n v (ev env x)) (hk:ksX P c s T v (lo.map (tev c s)) (hi.map (tev c s)) Kf=some r):Res P κ ln z c s env h n ⟨d,.slice T x lo hi none,ty,pos,after,g⟩ Kf r:=by
 unfold ksX at hk
 split at hk
 ·exact kaa hk
 ·rename_i l hl
  have hlo:=kwY (fun x=>R.ev x) hl
  simp only at hk
  generalize hx:ev env x=a at hv
  split at hk
  ·rename_i t y
   split at hk
   ·rename_i u e hu he
    have hhi:=kkm (m:=y.length) (fun x=>R.ev x) hu
    split at hk
    ·rename_i hc
     obtain ⟨hw,hie,hdy⟩:=hc
     simp only [jaa] at hk
     obtain ⟨w,hg,hk⟩:=hk
     obtain ⟨g1,g2,g3,hg⟩:=kqZ hg
     subst hg
     have hz0:=R.dy hdy
     cases hv with
     | c _ _ _ hd hs=>
      replace hs:Snap z a (.sl (y.map t.enc)):=hs
      replace hd:t.dat=true:=hd
      have hie':∃ i,P.info? e=some i:=jao.1 hie
      rcases hs.sl_inv with ⟨es,rfl,h1⟩ | ⟨rfl,h1⟩ | ⟨id,off,len,k,T',es,rfl,h1,h2,h3⟩
      ·have hl1:=h1.1
       rw [jar] at hl1
       refine R.q (fun K hk=>?_) (.c (.sl t) ((y.take u.toNat).drop l.toNat) (.sl ((es.take u.toNat).drop l.toNat)) hd ?_) hk
       ·simp only [aop,hx,keC,kbC,hlo]
        rw [<-hl1,hhi]
        exact ⟨⟨e,he,hie',fun c hc=>by rw [<-hw]; exact h1.heads hd c (List.mem_of_mem_head? hc)⟩,g1,g2,g3,hk⟩
       ·show Snap z _ (.sl (((y.take u.toNat).drop l.toNat).map t.enc))
        rw [List.map_drop,List.map_take]
        exact Snap.of_sl (h1.td _ _)
      ·simp only [jdl] at h1
       subst h1
       obtain ⟨gl,gu⟩:=kpk g1 g2 g3 rfl
       subst gu; subst gl
       refine R.q (fun K hk=>?_) (.c (.sl t) _ nilS hd .nilS) hk
       simp only [aop,hx,keC,kbC,hlo]
       rw [show hiA 0 (hi.map (ev env))=some 0 from hhi]
       exact ⟨⟨e,he,hie'⟩,jec _,jec _,jec _,hk⟩
      ·rw [hz0] at h1; cases h1
    ·exact kaa hk
   ·exact kaa hk
  ·rename_i id
   split at hk
   ·rename_i T' t y hB
    split at hk
    ·rename_i u e hu he
     have hhi:=kkm (m:=y.length) (fun x=>R.ev x) hu
     split at hk
     ·rename_i hc
      obtain ⟨hw,hw0,hie⟩:=hc
      have hie':∃ i,P.info? e=some i:=jao.1 hie
      simp only [jaa] at hk
      obtain ⟨w,hg,hk⟩:=hk
      obtain ⟨g1,g2,g3,_⟩:=kqZ hg
      cases R.blk _ _ hB with
      | sl0 _ _ _ hd hq' hl' hn=>
       subst hl'
       obtain ⟨gl,gu⟩:=kpk g1 g2 g3 rfl
       subst gu; subst gl
       cases hv with
       | mw0 _ hN _=>
        refine R.q (fun K hk=>?_) (.ms0 id 0 (0-0) hN hq' rfl (by simp)) hk
        simp only [aop,hx,keC,kbC,hlo]
        rw [show hiA 0 (hi.map (ev env))=some 0 from hhi]
        exact ⟨⟨e,he,hie'⟩,jec _,jec _,jec _,hk⟩
       | mw _ q _ hq=>rw [hq'] at hq; cases hq
      | sl _ _ _ q' es hd hq' hh hvs h1' hn=>
       cases hv with
       | mw0 _ _ hq=>rw [hq'] at hq; cases hq
       | mw _ q hN hq=>
        rw [hq'] at hq; cases hq
        refine R.q (fun K hk=>?_) (.ms id l (u-l) q' hN hq' g1 (by omega) (by rw [<-hn]; omega)) hk
        simp only [aop,hx,keC,kbC,hlo,hh]
        rw [<-hn,hhi]
        refine ⟨⟨e,he,hw,hw0⟩,g1,g2,g3,?_⟩
        rw [jcb,show u.toNat-l.toNat=(u-l).toNat by omega]; exact hk
     ·exact kaa hk
    ·exact kaa hk
   ·exact kaa hk
  ·rename_i id o len
   split at hk
   ·rename_i T' t y hB
    split at hk
    ·rename_i u e hu he
     have hh2:∀ m:Nat,(m:Int)=len->hiA m (hi.map (ev env))=some u:=fun m hm=>by
      subst hm
      exact kkm (m:=m) (fun x=>R.ev x) hu
     split at hk
     ·rename_i hc
      obtain ⟨hw,hw0,hie⟩:=hc
      have hie':∃ i,P.info? e=some i:=jao.1 hie
      simp only [jaa] at hk
      obtain ⟨w,hg,hk⟩:=hk
      unfold gmb at hg
      split at hg
      ·rename_i hcond
       cases R.blk _ _ hB with
       | sl0 _ _ _ hd hq' hl' hn=>
        subst hl'
        cases hv with
        | ms0 _ _ _ hN _ ho hl=>
         subst ho; subst hl
         obtain ⟨gl,gu⟩:=kpk (m:=0) hcond.1 hcond.2.1 hcond.2.2 rfl
         subst gu; subst gl
         refine R.q (fun K hk=>?_) (.ms0 id (0+0) (0-0) hN hq' (by simp) (by simp)) hk
         simp only [aop,hx,keC,kbC,hlo]
         rw [show hiA 0 (hi.map (ev env))=some 0 from hh2 0 rfl]
         exact ⟨⟨e,he,hie'⟩,jec _,jec _,jec _,hk⟩
        | ms _ _ _ q _ hq=>rw [hq'] at hq; cases hq
       | sl _ _ _ q' es hd hq' hh hvs h1' hn=>
        cases hv with
        | ms0 _ _ _ _ hq=>rw [hq'] at hq; cases hq
        | ms _ _ _ q hN hq h0 h1 h2=>
         rw [hq'] at hq; cases hq
         have hlen:((len.toNat:Nat):Int)=len:=Int.toNat_of_nonneg h1
         have g1:=hcond.1
         have g2:=hcond.2.1
         have g3:=hcond.2.2
         refine R.q (fun K hk=>?_) (.ms id (o+l) (u-l) q' hN hq' (by omega) (by omega) (by omega)) hk
         simp only [aop,hx,keC,kbC,hlo,hh]
         rw [hh2 len.toNat hlen]
         refine ⟨⟨e,he,hw,hw0⟩,g1,g2,by omega,?_⟩
         rw [show o.toNat+l.toNat=(o+l).toNat by omega,show u.toNat-l.toNat=(u-l).toNat by omega]; exact hk
      ·cases hg
     ·exact kaa hk
    ·exact kaa hk
   ·exact kaa hk
  ·rename_i y
   split at hk
   ·rename_i u hu
    have hhi:=kkm (m:=y.length) (fun x=>R.ev x) hu
    split at hk
    ·rename_i hT
     replace hT:=kgZ hT
     simp only [jaa] at hk
     obtain ⟨w,hg,hk⟩:=hk
     obtain ⟨g1,g2,g3,hg⟩:=kqZ hg
     subst hg
     rw [hv.s_inv] at hx
     refine R.q (fun K hk=>?_) (.str _) hk
     simp only [aop,hx,str,keC,kbC,hlo]
     rw [show (⟨y.toArray⟩:ByteArray).size=y.length by simp [ByteArray.size],hhi]
     refine ⟨hT,g1,g2,g3,?_⟩
     have e:(⟨y.toArray⟩:ByteArray).extract l.toNat u.toNat=⟨((y.take u.toNat).drop l.toNat).toArray⟩:=by
      apply ByteArray.ext
      simp [List.drop_take]
     rw [e]; exact hk
    ·exact kaa hk
   ·exact kaa hk
  ·exact kaa hk
theorem kmT (R:Rel P κ ln z c s env h n) {t:Ty} {v:TV sem} {a:AV} (hv:TVR P κ ln z s.n v a) {l:List t.den} {ids:List Nat} (hs:srcX (A:=sem) c s t v=some (l,ids)) :
  t.dat=true/\∃ xs,srcA h t.wd a=some xs/\SnapE z xs (l.map t.enc):=by
 have all:∀ {es:List (List AV)} {l:List t.den},t.dat=true->SnapE z es (l.map t.enc)->srcA h t.wd (.sl es)=some es:=fun hd h2=>by
  simp only [srcA]
  rw [if_pos]
  rw [jam]
  exact fun e he=>by simpa using h2.heads hd e he
 have bl:∀ {id q:Nat} {T:TypeId} {es:List (List AV)} {t':Ty} {l':List t'.den},thp c s id=some (.sl T t' l')->κ id=some q->∃ es,h q=some (.cells t'.wd T es)/\SnapE z es (l'.map t'.enc)/\es.length=ln id:=fun hB hq=>by
  cases R.blk _ _ hB with
  | sl0 _ _ _ hd hq' hl hn=>rw [hq] at hq'; cases hq'
  | sl _ _ _ q' es hd hq' hh hvs h1 hn=>
   rw [hq] at hq'; cases hq'
   have hl:=hvs.1
   rw [jar,hn] at hl
   exact ⟨es,hh,hvs,hl.symm⟩
 have nl:∀ {id:Nat} {T:TypeId} {t':Ty} {l':List t'.den},thp c s id=some (.sl T t' l')->κ id=none->l'=[]:=fun hB hq=>by
  cases R.blk _ _ hB with
  | sl0 _ _ _ hd hq' hl hn=>exact hl
  | sl _ _ _ q' es hd hq'=>rw [hq] at hq'; cases hq'
 unfold srcX at hs
 split at hs
 ·split at hs
  ·cases hs
  ·rename_i hdy
   obtain ⟨hd,h1,_⟩:=kbf R hv hs
   have hz0:=R.dy (by simpa using hdy)
   replace hd:t.dat=true:=hd
   refine ⟨hd,?_⟩
   have hids:ids=[]:=by
    unfold snapV at hs
    simp only [Ty.dat,hd,Bool.true_eq_false,if_false,Ty.agg,jaj,snapL] at hs
    split at hs
    ·rename_i x ids' hm
     cases hs
     simp only [jab] at hm
     obtain ⟨y,_,he⟩:=hm
     cases he; rfl
    ·cases hs
   subst hids
   rw [kbe] at h1
   replace h1:Snap z a (.sl (l.map t.enc)):=h1
   rcases h1.sl_inv with ⟨es,rfl,h2⟩ | ⟨rfl,h2⟩ | ⟨id,off,len,k,T',es,rfl,h2,h3,h4⟩
   ·exact ⟨es,all hd h2,h2⟩
   ·simp only [jdl] at h2; subst h2
    exact ⟨[],rfl,rfl,fun q e e' hq=>by simp at hq⟩
   ·rw [hz0] at h2; cases h2
 ·cases hs
 ·unfold snapV at hs
  split at hs
  ·cases hs
  ·rename_i hd
   replace hd:t.dat=true:=by simpa [Ty.dat] using hd
   refine ⟨hd,?_⟩
   simp only [Ty.agg,jaj,if_false] at hs
   split at hs
   ·rename_i y ids' hm
    cases hs
    cases v <;> simp only [snapL,jab,Option.some.injEq,reduceCtorEq] at hm
    ·rename_i hcc _; exact (hcc _ _ rfl).elim
    ·split at hm
     ·rename_i hn
      cases hm
      cases hv
      rw [kaK hn]
      exact ⟨[],rfl,rfl,fun q e e' hq=>by simp at hq⟩
     ·cases hm
    ·split at hm
     ·rename_i T' t' l' hB
      simp only [jab] at hm
      obtain ⟨y,hy,he⟩:=hm
      cases he
      obtain ⟨e,rfl⟩:=kai hy
      cases e
      cases hv with
      | mw0 _ hN hq=>
       obtain rfl:=nl hB hq
       exact ⟨[],rfl,rfl,fun q e e' hq=>by simp at hq⟩
      | mw _ q hN hq=>
       obtain ⟨es,g1,g2,g3⟩:=bl (es:=[]) hB hq
       refine ⟨es,?_,g2⟩
       simp only [srcA,g1]
       rw [if_pos ⟨trivial,by omega⟩,jck,jbr (by omega)]
     ·cases hm
    ·split at hm
     ·rename_i T' t' l' hB
      simp only [jab] at hm
      obtain ⟨y,hy,he⟩:=hm
      cases he
      obtain ⟨e,rfl⟩:=kai hy
      cases e
      cases hv with
      | ms0 _ _ _ hN hq ho hl=>
       obtain rfl:=nl hB hq
       subst ho; subst hl
       exact ⟨[],rfl,rfl,fun q e e' hq=>by simp at hq⟩
      | ms _ _ _ q hN hq h0 h1 h2=>
       obtain ⟨es,g1,g2,g3⟩:=bl (es:=[]) hB hq
       refine ⟨_,(by simp only [srcA,g1]; exact if_pos ⟨trivial,by omega⟩),?_⟩
       show SnapE z _ (((l'.drop _).take _).map t.enc)
       rw [List.map_take,List.map_drop]
       exact g2.drop_take _ _
     ·cases hm
    ·rename_i hcf; exact (hcf _ rfl).elim
   ·cases hs
theorem SnapE.append {a a' b b':List (List AV)} (h:SnapE z a a') (g:SnapE z b b'):SnapE z (a++b) (a'++b'):=by
 refine ⟨by simp [h.1,g.1],fun q e e' hq hq'=>?_⟩
 rw [jbm] at hq hq'
 rw [h.1] at hq'
 split at hq
 ·rename_i hlt; rw [if_pos hlt] at hq'; exact h.2 _ e e' hq hq'
 ·rename_i hlt; rw [if_neg hlt] at hq'; exact g.2 _ e e' hq hq'
theorem SnapE.ones {t:Ty} {l:List t.den} {es:List (List AV)} (hd:t.dat=true) (hs:SnapE z es (l.map t.enc)):∀ e∈es,∀ a∈e,a.one=true:=by
 intro e he a ha
 obtain ⟨i,hi⟩:=jcz he
 have hlt:=(jad.1 hi).1
 have hlen:=hs.1
 rw [jar] at hlen
 exact (hs.2 i e _ hi (by rw [jaw,jae (by omega)]; rfl)).one_rev (kaQ t _ hd) a ha
theorem Rel.delA (R:Rel P κ ln z c s env h n) {id q:Nat} {B0:TB sem} (hb:alk s.hp id=some (some B0)) (hq:κ id=some q):Rel P κ ln z c { s with hp:=(id,none)::s.hp } env (delH h q) n:=by
 refine R.del hb (fun q2 B hq2=>?_) (fun q2 B hne h2=>?_)
 ·unfold delH at hq2
  split at hq2
  ·cases hq2
  ·exact hq2
 ·unfold delH
  rw [if_neg]
  ·exact h2
  ·rintro rfl; exact hne hq
theorem kvZ (R:Rel P κ ln z c s env h n) {T T2:TypeId} {x y:Operand} {u v:TV sem} (hu:TVR P κ ln z s.n u (ev env x)) (hv:TVR P κ ln z s.n v (ev env y)) (hk:appX P c s T T2 u v Kf=some r) :
  Res P κ ln z c s env h n ⟨d,.call ⟨.builtin .append,#[x,y],#[T,T2]⟩,ty,pos,after,g⟩ Kf r:=by
 unfold appX at hk
 split at hk
 ·exact kaa hk
 ·rename_i e he
  split at hk
  ·rename_i t zs ht hz
   split at hk
   ·rename_i hc
    obtain ⟨hp,hzl,hw0,hb⟩:=hc
    have hzne:zs≠[]:=by rintro rfl; simp at hzl; omega
    split at hk
    ·exact kaa hk
    ·rename_i l ids hsrc
     obtain ⟨hd,xs,hxs,hsx⟩:=kmT R hv hsrc
     rw [<-hzl] at hxs
     simp only at hk
     generalize hx:ev env x=a at hu
     have nilc:ev env x=nilS->(sem.p2 (x:=.sl t) (y:=.sl t) (z:=.sl t) "" (fun a b=>gapp a b) ([]:List t.den) l fun l'=>newSl s e t l' Kf)=some r->Res P κ ln z c s env h n ⟨d,.call ⟨.builtin .append,#[x,y],#[T,T2]⟩,ty,pos,after,g⟩ Kf r:=fun hx hk=>by
      simp only [jaa] at hk
      obtain ⟨l',hg,hk⟩:=hk
      obtain ⟨hle,hg⟩:=kib hg
      rw [jba] at hg
      rw [hg] at hk
      have hlen:=hsx.1
      rw [jar] at hlen
      have hle':xs.length<=1048576:=by simp at hle; omega
      by_cases hne:xs=[]
      ·subst hne
       have:l=[]:=by simpa using hlen
       subst this
       refine kjC rfl R hd (fun K hk=>?_) hk
       simp only [aop,kah,hx,kby,he,hz,hxs]
       exact ⟨hp,hzne,hb,hle',fun _=>hk,fun h=>absurd rfl h⟩
      ·refine kiu rfl R hd hsx (hsx.ones hd) (fun K hk=>?_) hk
       simp only [aop,kah,hx,kby,he,hz,hxs]
       refine ⟨hp,hzne,hb,hle',fun h=>absurd h hne,fun _=>?_⟩
       rw [hzl,<-hlen]; exact hk
     split at hk
     ·rename_i id
      split at hk
      ·rename_i e' t' l0 hB
       split at hk
       ·rename_i hc2
        obtain ⟨rfl,hni⟩:=hc2
        split at hk
        ·rename_i l1 hl1
         obtain ⟨et,rfl⟩:=kai hl1
         cases et
         cases R.blk _ _ (kab hB) with
         | sl0 _ _ _ hd' hq' hl hn=>
          subst hl
          cases hu with
          | mw0=>
           simp only [jaa] at hk
           obtain ⟨l',hg,hk⟩:=hk
           have R1:=R.del (h':=h) hB (fun _ _ h=>h) (fun _ _ _ h=>h)
           obtain ⟨hle,hg⟩:=kib hg
           rw [jba] at hg
           rw [hg] at hk
           have hlen:=hsx.1
           rw [jar] at hlen
           have hle':xs.length<=1048576:=by simp at hle; omega
           have up:∀ {Q:Res P κ ln z c { s with hp:=(id,none)::s.hp } env h n ⟨d,.call ⟨.builtin .append,#[x,y],#[T,T2]⟩,ty,pos,after,g⟩ Kf r},Res P κ ln z c s env h n ⟨d,.call ⟨.builtin .append,#[x,y],#[T,T2]⟩,ty,pos,after,g⟩ Kf r:=fun {Q}=>by
            obtain ⟨tv,s',v,h',n',κ2,ln2,z2,g1,g2,g3,g4,g6,g7,_⟩:=Q
            exact ⟨tv,s',v,h',n',κ2,ln2,z2,g1,g2,g3,g4,g6,g7,fun hc=>by cases hc⟩
           by_cases hne:xs=[]
           ·subst hne
            have:l=[]:=by simpa using hlen
            subst this
            refine up (Q:=kjC rfl R1 hd (fun K hk=>?_) hk)
            simp only [aop,kah,hx,kby,he,hz,hxs]
            exact ⟨hp,hzne,hb,hle',fun _=>hk,fun h=>absurd rfl h⟩
           ·refine up (Q:=kiu rfl R1 hd hsx (hsx.ones hd) (fun K hk=>?_) hk)
            simp only [aop,kah,hx,kby,he,hz,hxs]
            refine ⟨hp,hzne,hb,hle',fun h=>absurd h hne,fun _=>?_⟩
            rw [hzl,<-hlen]; exact hk
          | mw _ q _ hq=>rw [hq'] at hq; cases hq
         | sl _ _ _ q' es hd' hq' hh hvs h1' hn=>
          cases hu with
          | mw0 _ _ hq=>rw [hq'] at hq; cases hq
          | mw _ q hN hq=>
           rw [hq'] at hq; cases hq
           simp only [jaa] at hk
           obtain ⟨l',hg,hk⟩:=hk
           obtain ⟨hle,hg⟩:=kib hg
           subst hg
           have hlen:=hsx.1
           rw [jar] at hlen
           have hlen0:=hvs.1
           rw [jar] at hlen0
           have R1:=R.delA hB hq'
           have hq0:delH h q' q'=none:=by simp [delH]
           have hsn:SnapE z (es++xs) ((l0++l).map t.enc):=by rw [jcx]; exact hvs.append hsx
           have R2:=R1.new (h':=updH (delH h q') n (.cells t.wd e' (es++xs))) (n':=n+1) (.sl e' t (l0++l)) (some n) (l0++l).length (fun q B hq=>by
             unfold updH; rw [if_neg]; ·exact hq
             rintro rfl; rw [R1.hn _ (jah _)] at hq; cases hq) (jbw _) (fun q hq=>by cases hq; omega) (fun q hq=>by unfold updH; rw [if_neg (by omega)]; exact R1.hn q (by omega))
            (.sl e' t (l0++l) n (es++xs) hd updK_self (by simp [updH]) hsn (hsn.ones hd) updK_self.symm)
           refine ⟨.mw s.n,_,.ms n 0 (ln id+xs.length),_,_,_,_,_,fun K hk=>?_,hk,R2,?_,jbw _,fun id hi=>⟨kau hi,fun _=>kau hi⟩,fun hc=>by cases hc⟩
           ·simp only [aop,kah,hx,kby,he,hz,hxs,hh]
            refine ⟨hp,hzne,hb,hzl.symm,trivial,by omega,by omega,?_⟩
            exact hk
           ·have:=TVR.mw (P:=P) (κ:=updK κ s.n (some n)) (ln:=updK ln s.n (l0++l).length) (z:=z) (N:=s.n+1) s.n n (jbk _) updK_self
            rw [updK_self] at this
            have e0:(l0++l).length=ln id+xs.length:=by rw [jbg,hn]; omega
            rw [e0] at this
            exact e0 ▸ this
        ·exact kaa hk
       ·exact kaa hk
      ·exact kaa hk
     ·rename_i w
      split at hk
      ·rename_i hn
       cases hu
       rw [kaK hn] at hx
       exact nilc hx hk
      ·exact kaa hk
     ·exact kaa hk
   ·exact kaa hk
  ·exact kaa hk
theorem SnapE.take {es es':List (List AV)} (h:SnapE z es es') (m:Nat):SnapE z (es.take m) (es'.take m):=by
 have:=h.td 0 m
 rwa [jck,jck] at this
theorem SnapE.drop {es es':List (List AV)} (h:SnapE z es es') (o:Nat):SnapE z (es.drop o) (es'.drop o):=by
 refine ⟨by simp [h.1],fun q e e' hq hq'=>?_⟩
 rw [jaq] at hq hq'
 exact h.2 _ e e' hq hq'
theorem Rel.reset (R:Rel P κ ln z c s env h n) {id:Nat} {B:TB sem} (hb:alk s.hp id=some (some B)):Rel P κ ln z c { s with hp:=(id,some B)::s.hp } env h n:=by
 have ht:∀ x,thp c { s with hp:=(id,some B)::s.hp } x=thp c s x:=fun x=>by
  unfold thp
  simp only [alk]
  by_cases e:x=id
  ·subst e; rw [if_pos rfl,hb]
  ·rw [if_neg e]
 exact ⟨R.env,fun i B' hi=>R.blk i B' (ht i ▸ hi),fun i B' hi=>R.lt i B' (ht i ▸ hi),fun i j B1 B2 q hi hj=>R.inj i j B1 B2 q (ht i ▸ hi) (ht j ▸ hj),R.zin,fun i B' q hi=>R.zout i B' q (ht i ▸ hi),fun i B' q hi=>R.bnd i B' q (ht i ▸ hi),R.hn,R.e0,fun i b hi=>by
  simp only [alk] at hi
  split at hi
  ·rename_i e; subst e; exact R.g _ _ hb
  ·exact R.g _ _ hi,R.dy,R.zk,R.fam.map (fun i B' hi=>.inl ⟨B',ht i ▸ hi,fun h=>h,rfl,rfl⟩) (fun id _ B r _ h1 h2 h3=>((R.fam id B h1 h2).2 r h3).2.1) (jah _)⟩
theorem kxp {t:Ty} {l xs:List t.den} {es ys:List (List AV)} (h:SnapE z es (l.map t.enc)) (g:SnapE z ys (xs.map t.enc)) (o m:Nat):SnapE z (es.take o++ys.take m++es.drop (o+m)) ((l.take o++xs.take m++l.drop (o+m)).map t.enc):=by
 rw [jcx,jcx,List.map_take,List.map_take,List.map_drop]
 exact ((h.take o).append (g.take m)).append (h.drop (o+m))
theorem kuS (R:Rel P κ ln z c s env h n) {T T2:TypeId} {x y:Operand} {u v:TV sem} (hu:TVR P κ ln z s.n u (ev env x)) (hv:TVR P κ ln z s.n v (ev env y)) (hk:copyX P c s T u v Kf=some r) :
  Res P κ ln z c s env h n ⟨d,.call ⟨.builtin .copy,#[x,y],#[T,T2]⟩,ty,pos,after,g⟩ Kf r:=by
 unfold copyX at hk
 split at hk
 ·exact kaa hk
 ·rename_i e he
  split at hk
  ·rename_i t zs ht hz
   split at hk
   ·rename_i hc
    obtain ⟨hzl,hw0⟩:=hc
    have hzne:zs≠[]:=by rintro rfl; simp at hzl; omega
    split at hk
    ·exact kaa hk
    ·rename_i xs ids hsrc
     obtain ⟨hd,ys,hys,hsy⟩:=kmT R hv hsrc
     have hys':=hys
     rw [<-hzl] at hys
     have hyl:=hsy.1
     rw [jar] at hyl
     simp only at hk
     generalize hx:ev env x=a at hu
     have core:∀ {id q:Nat} {e':TypeId} {l:List t.den} {es:List (List AV)} {o len:Int} (hB:alk s.hp id=some (some (.sl e' t l))) (hq:κ id=some q) (hh:h q=some (.cells t.wd e' es)) (hvs:SnapE z es (l.map t.enc)) (hn:l.length=ln id) (h0:0<=o) (h1:0<=len) (h2:o+len<=ln id) (hx:ev env x = .ms q o.toNat len.toNat),
       Kf (.c (.i .i64) ((fun (a b:Int)=>if b<a then b else a) (lenI xs) len)) { s with hp:=(id,some (.sl e' t (lcopy l o len xs)))::s.hp }=some r->
       Res P κ ln z c s env h n ⟨d,.call ⟨.builtin .copy,#[x,y],#[T,T2]⟩,ty,pos,after,g⟩ Kf r:=by
      intro id q e' l es o len hB hq hh hvs hn h0 h1 h2 hx hk
      have hle:=hvs.1
      rw [jar] at hle
      have hm:((min ys.length len.toNat:Nat):Int)=(if len<lenI xs then len else lenI xs):=by
       show _=if len<(xs.length:Int) then len else (xs.length:Int)
       split <;> omega
      have hsn:SnapE z (es.take o.toNat++ys.take (min ys.length len.toNat)++es.drop (o.toNat+min ys.length len.toNat)) ((lcopy l o len xs).map t.enc):=by
       unfold lcopy
       rw [<-hyl]
       exact kxp hvs hsy _ _
      have hln:(lcopy l o len xs).length=l.length:=by
       unfold lcopy
       simp only [jbg,jbh,jdo]
       omega
      refine ⟨_,_,.sc (.int .i64 (if len<lenI xs then len else lenI xs)),updH h q (.cells t.wd e' (es.take o.toNat++ys.take (min ys.length len.toNat)++es.drop (o.toNat+min ys.length len.toNat))),n,κ,ln,z,fun K hk=>?_,hk,R.set hB hq (.sl e' t (lcopy l o len xs) q _ hd hq (by simp [updH]) hsn (hsn.ones hd) (by rw [hln,hn])),.int _ _,jah _,fun _ _=>⟨rfl,fun _=>rfl⟩,fun hc=>by cases hc⟩
      simp only [aop,kah,hx,copyK,he,hz,hys,hh]
      refine ⟨hzne,hzl.symm,by omega,?_⟩
      rw [hm]; exact hk
     split at hk
     ·rename_i id
      split at hk
      ·rename_i e' t' l0 hB
       split at hk
       ·rename_i l hl
        obtain ⟨et,rfl⟩:=kai hl
        cases et
        cases R.blk _ _ (kab hB) with
        | sl0 _ _ _ hd' hq' hl hn=>
         subst hl
         cases hu with
         | mw0=>
          have e0:lcopy ([]:List t.den) 0 (lenI ([]:List t.den)) xs=[]:=by simp [lcopy,lenI]
          refine ⟨_,_,.sc (.int .i64 0),h,n,κ,ln,z,fun K hk=>?_,hk,?_,?_,jah _,fun _ _=>⟨rfl,fun _=>rfl⟩,fun hc=>by cases hc⟩
          ·simp only [aop,kah,hx,copyK,he,hz,hys]
           exact ⟨hzne,hk⟩
          ·show Rel P κ ln z c { s with hp:=(id,some (.sl e' t (lcopy ([]:List t.den) 0 (lenI ([]:List t.den)) xs)))::s.hp } env h n
           rw [e0]; exact R.reset hB
          ·have:(if lenI ([]:List t.den)<lenI xs then lenI ([]:List t.den) else lenI xs)=0:=by
            show (if (0:Int)<(xs.length:Int) then (0:Int) else (xs.length:Int))=0
            split <;> omega
           show TVR P κ ln z _ (.c (.i .i64) (if lenI ([]:List t.den)<lenI xs then lenI ([]:List t.den) else lenI xs)) _
           rw [this]; exact .int _ _
         | mw _ q _ hq=>rw [hq'] at hq; cases hq
        | sl _ _ _ q' es hd' hq' hh hvs h1' hn=>
         cases hu with
         | mw0 _ _ hq=>rw [hq'] at hq; cases hq
         | mw _ q hN hq=>
          rw [hq'] at hq; cases hq
          refine core (o:=0) (len:=lenI l0) hB hq' hh hvs hn (jec _) (Int.natCast_nonneg _) (by show (0:Int)+(l0.length:Int)<=_; omega) ?_ hk
          rw [hx,<-hn]; rfl
       ·exact kaa hk
      ·exact kaa hk
     ·rename_i id o len
      split at hk
      ·rename_i e' t' l0 hB
       split at hk
       ·rename_i l hl
        obtain ⟨et,rfl⟩:=kai hl
        cases et
        cases R.blk _ _ (kab hB) with
        | sl0 _ _ _ hd' hq' hl hn=>
         subst hl
         cases hu with
         | ms0 _ _ _ hN _ ho hl=>
          subst ho; subst hl
          have e0:lcopy ([]:List t.den) 0 0 xs=[]:=by simp [lcopy]
          refine ⟨_,_,.sc (.int .i64 0),h,n,κ,ln,z,fun K hk=>?_,hk,?_,?_,jah _,fun _ _=>⟨rfl,fun _=>rfl⟩,fun hc=>by cases hc⟩
          ·simp only [aop,kah,hx,copyK,he,hz,hys]
           exact ⟨hzne,hk⟩
          ·show Rel P κ ln z c { s with hp:=(id,some (.sl e' t (lcopy ([]:List t.den) 0 0 xs)))::s.hp } env h n
           rw [e0]; exact R.reset hB
          ·have:(if (0:Int)<lenI xs then (0:Int) else lenI xs)=0:=by
            show (if (0:Int)<(xs.length:Int) then (0:Int) else (xs.length:Int))=0
            split <;> omega
           show TVR P κ ln z _ (.c (.i .i64) (if (0:Int)<lenI xs then (0:Int) else lenI xs)) _
           rw [this]; exact .int _ _
         | ms _ _ _ q _ hq=>rw [hq'] at hq; cases hq
        | sl _ _ _ q' es hd' hq' hh hvs h1' hn=>
         cases hu with
         | ms0 _ _ _ _ hq=>rw [hq'] at hq; cases hq
         | ms _ _ _ q hN hq h0 h1 h2=>
          rw [hq'] at hq; cases hq
          exact core (o:=o) (len:=len) hB hq' hh hvs hn h0 h1 h2 hx hk
       ·exact kaa hk
      ·exact kaa hk
     ·rename_i w
      split at hk
      ·rename_i hn
       cases hu
       rw [kaK hn] at hx
       refine R.q (fun K hk=>?_) (.int _ _) hk
       simp only [aop,kah,hx,copyK,he,hz,hys]
       exact ⟨hzne,hk⟩
      ·exact kaa hk
     ·exact kaa hk
   ·exact kaa hk
  ·exact kaa hk
end
section
variable {P:Program} {κ κ':Nat->Option Nat} {ln ln':Nat->Nat} {z z':AH} {c:Cx sem} {s:TS sem} {env:Env} {h h':AH} {n n' N N':Nat}
variable {ρ:Ty} {Kf:TV sem->TS sem->sem.Ans ρ} {r:ρ.den}
variable {d:Option Tmp} {ty:TypeId} {pos:String} {after:Array Edge} {g:Option (Nat×Bool)}
theorem kkK {pl:List (Nat×Nat)} (hev:∀ x,TVR P κ ln z N (tev c s x) (ev env x)):∀ (parts:List (Nat×Operand)) (cs:List (TV sem)) (as:List AV) {vs:List (TV sem)},TVRs P κ ln z N cs as->(∀ a∈as,a.one=true)->fillT c pl s parts cs=some vs->∃ bs,fillS pl env parts as=some bs/\TVRs P κ ln z N vs bs/\∀ a∈bs,a.one=true
 | [],cs,as,vs,hc,h1,hf=>by cases hf; exact ⟨as,rfl,hc,h1⟩
 | (i,x)::rest,cs,as,vs,hc,h1,hf=>by
  simp only [fillT] at hf
  split at hf
  ·rename_i o m xs hp hx
   split at hf
   ·rename_i hl
    obtain ⟨xa,g1,g2⟩:=(hev x).one_cells hx
    have g3:=krK (hev x) hx g1
    have l1:=g2.len
    have l2:=hc.len
    obtain ⟨bs,k1,k2,k3⟩:=kkK hev rest _ (as.take o++xa++as.drop (o+m)) (((hc.take o).append g2).append (hc.drop _)) (fun a ha=>by
     rcases jaz.1 ha with ha | ha
     ·rcases jaz.1 ha with ha | ha
      ·exact h1 a (jco ha)
      ·exact g3 a ha
     ·exact h1 a (jda ha)) hf
    refine ⟨bs,?_,k2,k3⟩
    simp only [fillS,hp,g1]
    rw [if_pos ⟨by omega,by omega⟩]; exact k1
   ·cases hf
  ·cases hf
theorem kva {s s':TS sem} (he:s'.env=s.env) (x:Nat):tlk c s' x=tlk c s x:=by unfold tlk; rw [he]
theorem kvo {s s':TS sem} (he:s'.env=s.env) (x:Operand):tev c s' x=tev c s x:=by cases x <;> simp [tev,kva he]
theorem ktE (R:Rel P κ ln z c s env h n) {T:TypeId} {parts:Array (Nat×Operand)} (hk:ktf P c s T parts.toList Kf=some r):Res P κ ln z c s env h n ⟨d,.build T parts,ty,pos,after,g⟩ Kf r:=by
 unfold ktf at hk
 split at hk
 ·rename_i zs Ts pl hz hT hp
  split at hk
  ·rename_i hl
   simp only at hk
   have hsc:=kjD hz
   obtain ⟨κ',ln',R',h1,h2,h3,h4,h5,_⟩:=kgs zs Ts R hsc hl
   split at hk
   ·rename_i vs hf
    have hev:∀ x,TVR P κ' ln' z (zeroC P s zs Ts).2.n (tev c s x) (ev env x):=fun x=>by rw [<-kvo (c:=c) h3]; exact R'.ev x
    obtain ⟨bs,k1,k2,k3⟩:=kkK hev parts.toList _ zs h1 (fun a ha=>by obtain ⟨v,rfl,hv⟩:=hsc a ha; exact hv) hf
    exact ⟨.ag vs,_,.ag bs,h,n,κ',ln',z,fun K hk=>kvD hz hp k1 hk,hk,R',.ag vs bs k2 k3,h2,fun id hi=>⟨h4 id hi,fun _=>h5 id hi⟩,fun hc=>by cases hc⟩
   ·exact kaa hk
  ·exact kaa hk
 ·exact kaa hk
theorem kjA (R:Rel P κ ln z c s env h n) {t:Ty} (hd:t.dat=true):∀ (parts:List (Nat×Operand)) (j:Nat) {ys:List t.den} {ids:List Nat} (len:Nat),len=j+parts.length->knj (A:=sem) c s t parts j=some (ys,ids)->(∀ id∈ids,∃ B,thp c s id=some B)/\
  ∃ xs:List (List AV),xs.length=parts.length/\(∀ es:List (List AV),es.length=len->fillE t.wd env parts es=some (es.take j++xs))/\SnapE (hz (ows κ ln c s) h z ids) xs (ys.map t.enc)
 | [],j,ys,ids,len,hl,hp=>by
  cases hp
  refine ⟨fun id hi=>by simp at hi,[],rfl,fun es he=>?_,rfl,fun q e e' hq=>by simp at hq⟩
  simp only [List.length_nil,Nat.add_zero] at hl
  simp [fillE,<-hl,<-he]
 | (i,x)::rest,j,ys,ids,len,hl,hp=>by
  simp only [knj] at hp
  split at hp
  ·rename_i hij
   subst hij
   simp only [jaa,jab] at hp
   obtain ⟨⟨y,i1⟩,hy,⟨ys',i2⟩,hr,he⟩:=hp
   cases he
   obtain ⟨g0,g1,g2⟩:=kbf R (R.ev x) hy
   obtain ⟨xa,g3,g4⟩:=kjr g0 g1
   obtain ⟨k0,xs,k1,k2,k3⟩:=kjA R hd rest (i+1) len (by simp at hl; omega) hr
   refine ⟨fun id hi=>?_,xa::xs,by simp [k1],fun es he=>?_,?_⟩
   ·rcases jaz.1 hi with hi | hi
    ·exact g2 id hi
    ·exact k0 id hi
   ·have hlt:i<es.length:=by simp at hl; omega
    simp only [fillE,g3]
    rw [if_pos ⟨by rw [<-g4.len,kaf t y hd],hlt⟩,k2 (es.set i xa) (by simpa using he)]
    congr 1
    rw [List.take_set,List.take_succ_eq_append_getElem hlt,List.set_append,if_neg (by simp; omega)]
    simp [Nat.min_eq_left (Nat.le_of_lt hlt)]
   ·have m1:=kcM (o:=ows κ ln c s) (h:=h) (z:=z) (ids:=i1) (ids':=i1++i2) R.zin (fun id hi=>by simp [hi])
    have m2:=kcM (o:=ows κ ln c s) (h:=h) (z:=z) (ids:=i2) (ids':=i1++i2) R.zin (fun id hi=>by simp [hi])
    have k3:=k3.mono m2
    refine ⟨by simp [k3.1],fun q e e' hq hq'=>?_⟩
    cases q with
    | zero=>simp at hq hq'; subst hq; subst hq'; exact g4.mono m1
    | succ q=>exact k3.2 q e e' (by simpa using hq) (by simpa using hq')
  ·cases hp
theorem koe (R:Rel P κ ln z c s env h n) {T:TypeId} {len:Nat} {parts:Array (Nat×Operand)} (hk:kkH P c s T len parts.toList Kf=some r):Res P κ ln z c s env h n ⟨d,.buildSlice T len parts,ty,pos,after,g⟩ Kf r:=by
 unfold kkH at hk
 split at hk
 ·exact kaa hk
 ·rename_i e he
  split at hk
  ·rename_i t zs ht hz
   split at hk
   ·rename_i hc
    obtain ⟨hc1,hc2,hc3⟩:=hc
    have hd:=ket ht
    split at hk
    ·rename_i hl
     split at hk
     ·rename_i ys ids hp
      split at hk
      ·rename_i s' hs'
       obtain ⟨k0,xs,k1,k2,k3⟩:=kjA R hd parts.toList 0 len (by omega) hp
       obtain ⟨R',e1,e2,e3,e4,e5⟩:=R.retire hs'
       have hlen:=k3.1
       rw [jar] at hlen
       have hlst:∀ l:List t.den,lstD (A:=sem) t l=l:=by
        intro l
        induction l with
        | nil=>rfl
        | cons a l ih=>simp only [lstD]; rw [ih]
       rw [hlst] at hk
       have hres:=kiu (o:=⟨d,.buildSlice T len parts,ty,pos,after,g⟩) rfl R' hd k3 (k3.ones hd) (fun K hk=>?_) hk
       ·obtain ⟨tv,s2,v,h2,n2,κ2,ln2,z2,g1,g2,g3,g4,g5⟩:=hres
        exact ⟨tv,s2,v,h2,n2,κ2,ln2,z2,g1,g2,g3,g4,by have:=g5.1; omega,fun id hi=>g5.2.1 id (by omega),fun hc=>by cases hc⟩
       ·simp only [aop,he,hz,hc3]
        rw [k2 (List.replicate len zs) (by simp)]
        simp only [jdi,jba]
        rw [hc3] at hc2
        refine ⟨hc1,hc2,.inl ?_⟩
        rw [show len=ys.length by omega]; exact hk
      ·exact kaa hk
     ·exact kaa hk
    ·exact kaa hk
   ·exact kaa hk
  ·exact kaa hk
theorem kpE (R:Rel P κ ln z c s env h n) {T:TypeId} {x y:Operand} (hk:kmf P s T (tev c s x) (tev c s y) (kjV x y) Kf=some r):Res P κ ln z c s env h n ⟨d,.makeSlice T x y,ty,pos,after,g⟩ Kf r:=by
 unfold kmf at hk
 split at hk
 ·exact kaa hk
 ·rename_i e he
  split at hk
  ·rename_i t zs m ht hz hm
   split at hk
   ·rename_i z0 hz0
    split at hk
    ·rename_i hc
     obtain ⟨hs,hiz,hzl,hw0,hb⟩:=hc
     have hd:=ket ht
     have hx:=R.ev x
     rw [hm] at hx
     have hx':=hx.i_inv
     have hy':∃ k',ev env y = .sc (.int k' m):=by
      unfold kjV at hs
      split at hs
      ·rename_i a b
       obtain rfl:a=b:=by simpa using hs
       exact ⟨_,hx'⟩
      ·rename_i k a k' b
       have hab:a=b:=by simpa using hs
       subst hab
       have:(Value.int k a) = .int .i64 m:=by simpa [ev,cst] using hx'
       cases this
       exact ⟨k',rfl⟩
      ·cases hs
     obtain ⟨k',hy'⟩:=hy'
     simp only [jaa] at hk
     obtain ⟨l,hg,hk⟩:=hk
     obtain ⟨g1,g2,hg⟩:=kvb hg
     obtain ⟨rest,hr,hre⟩:=(jcm _ _).1 hiz
     obtain rfl:=jcp.1 hre
     obtain ⟨a,ea,ha⟩:=kdC (z:=z) t z0 zs [] hd hz0 hr
     rw [jbd] at ea; subst ea
     have hsn:SnapE z (List.replicate m.toNat zs) (l.map t.enc):=by
      rw [hg]
      refine ⟨by simp,fun q e e' hq hq'=>?_⟩
      rw [jct] at hq
      rw [List.map_replicate,jct] at hq'
      split at hq
      ·rename_i hlt; rw [if_pos hlt] at hq'; cases hq; cases hq'; exact ha
      ·cases hq
     refine kiu rfl R hd hsn (hsn.ones hd) (fun K hk=>?_) hk
     simp only [aop,he,hz,hx',hy']
     refine ⟨trivial,g1,g2,hb,by rintro rfl; simp at hzl; omega,?_⟩
     have hml:l.length=m.toNat:=by rw [hg]; simp
     rw [hml] at hk
     rw [hzl]; exact hk
    ·exact kaa hk
   ·exact kaa hk
  ·exact kaa hk
theorem newMp (R:Rel P κ ln z c s env h n) {k v:Ty} (hk:isKey k=true) (hf:v.flat=true):Rel P (updK κ s.n (some n)) (updK ln s.n 0) z c { s with hp:=(s.n,some (.mp k v []))::s.hp,n:=s.n+1 } env (updH h n (.map [])) (n+1):=
 R.new (.mp k v []) (some n) 0 (fun q B hq=>by
   unfold updH; rw [if_neg]; ·exact hq
   rintro rfl; rw [R.hn _ (jah _)] at hq; cases hq) (jbw _) (fun q hq=>by cases hq; omega) (fun q hq=>by unfold updH; rw [if_neg (by omega)]; exact R.hn q (by omega))
  (.mp k v [] n hk hf updK_self (by simp [updH]))
theorem kqT (R:Rel P κ ln z c s env h n) {T:TypeId} (hk:kpp P s T Kf=some r):Res P κ ln z c s env h n ⟨d,.makeMap T none,ty,pos,after,g⟩ Kf r:=by
 unfold kpp at hk
 split at hk
 ·split at hk
  ·split at hk
   ·rename_i hc
    obtain ⟨h1,h2⟩:=hc
    exact ⟨.mp s.n,_,.mp n,_,_,_,_,_,fun K hk=>by simp only [aop]; exact hk,hk,newMp R h1 h2,.mp s.n n (jbk _) updK_self,jbw _,fun id hi=>⟨kau hi,fun _=>kau hi⟩,fun hc=>by cases hc⟩
   ·exact kaa hk
  ·exact kaa hk
 ·exact kaa hk
theorem kdG:∀ (k:Ty) (x:k.den),∀ v∈valsK k x,Scal v
 | .i _,x,v,h | .s,x,v,h | .b,x,v,h=>by simp [valsK] at h; subst h; trivial
 | .w a,x,v,h=>kdG a x v h
 | .pr a b,x,v,h=>by
  rcases jaz.1 (show v∈valsK a x.1++valsK b x.2 from h) with h | h
  ·exact kdG a _ v h
  ·exact kdG b _ v h
 | .ar n a,x,v,h=>by
  obtain ⟨l,hl,hv⟩:=List.mem_flatten.1 (show v∈(x.l.map (valsK a)).flatten from h)
  obtain ⟨y,_,rfl⟩:=jay.1 hl
  exact kdG a y v hv
 | .un,x,v,h | .nt,x,v,h | .sl _,x,v,h | .pt _,x,v,h | .op _,x,v,h | .sm _ _,x,v,h | .fn _ _ _,x,v,h=>by simp [valsK] at h
theorem kub {α β:Type} {f:α->List β} {m:Nat} (hf:∀ x,(f x).length=m):∀ l:List α,(l.map f).flatten.length=l.length*m
 | []=>by simp
 | x::l=>by simp [hf,kub hf l,Nat.succ_mul,Nat.add_comm]
theorem kcH:∀ (k:Ty) (x:k.den),isKey k=true->(valsK k x).length=k.wd
 | .i _,_,_ | .s,_,_ | .b,_,_=>rfl
 | .w a,x,h=>kcH a x h
 | .pr a b,x,h=>by
  simp only [isKey,jac] at h
  show (valsK a x.1++valsK b x.2).length=a.wd+b.wd
  rw [jbg,kcH a _ h.1,kcH b _ h.2]
 | .ar n a,x,h=>by
  show ((x.l.map (valsK a)).flatten).length=n*a.wd
  rw [kub (fun y=>kcH a y h),x.h]
theorem kus {α β:Type} {f:α->List β} {m:Nat} (hf:∀ x,(f x).length=m) (hi:∀ x y,f x=f y->x=y):∀ l r:List α,l.length=r.length->(l.map f).flatten=(r.map f).flatten->l=r
 | [],[],_,_=>rfl
 | [],_::_,h,_=>by simp at h
 | _::_,[],h,_=>by simp at h
 | x::l,y::r,h,e=>by
  simp only [jap,List.flatten_cons] at e
  obtain ⟨e1,e2⟩:=List.append_inj e (by rw [hf,hf])
  rw [hi x y e1,kus hf hi l r (by simpa using h) e2]
theorem kiw:∀ (k:Ty) (x y:k.den),isKey k=true->valsK k x=valsK k y->x=y
 | .i _,x,y,_,h=>by simpa [valsK] using h
 | .s,x,y,_,h=>by
  simp only [valsK,List.cons.injEq,and_true] at h
  have:=(kwN x y)
  rw [show ks x=ks y from h] at this
  exact of_decide_eq_true (this.symm.trans (by rw [kwN]; simp))
 | .b,x,y,_,h=>by simpa [valsK] using h
 | .w a,x,y,hk,h=>kiw a x y hk h
 | .pr a b,x,y,hk,h=>by
  simp only [isKey,jac] at hk
  obtain ⟨e1,e2⟩:=List.append_inj (show valsK a x.1++valsK b x.2=valsK a y.1++valsK b y.2 from h) (by rw [kcH a _ hk.1,kcH a _ hk.1])
  exact Prod.ext (kiw a _ _ hk.1 e1) (kiw b _ _ hk.2 e2)
 | .ar n a,x,y,hk,h=>by
  have:=kus (fun z=>kcH a z hk) (fun u v=>kiw a u v hk) x.l y.l (by rw [x.h,y.h]) h
  cases x; cases y; simp only at this; subst this; rfl
theorem kgW:∀ (k:Ty) (x:k.den),isKey k=true->k.enc x=(valsK k x).map .sc
 | .i _,_,_ | .s,_,_ | .b,_,_=>rfl
 | .w a,x,h=>kgW a x h
 | .pr a b,x,h=>by
  simp only [isKey,jac] at h
  show a.enc x.1++b.enc x.2=(valsK a x.1++valsK b x.2).map .sc
  rw [jcx,kgW a _ h.1,kgW b _ h.2]
 | .ar n a,x,h=>by
  show (x.l.map a.enc).flatten=((x.l.map (valsK a)).flatten).map .sc
  rw [List.map_flatten,List.map_map]
  congr 1
  exact List.map_congr_left fun y _=>kgW a y h
theorem knQ {k:Ty} (hk:isKey k=true) (ha:k.agg=true) (x:k.den):keyV k x = .agg (valsK k x).toArray:=by
 cases k <;> first | rfl | (simp [Ty.agg] at ha; done)
theorem knT {k:Ty} (hk:isKey k=true) (ha:k.agg=false) (x:k.den):valsK k x=[keyV k x]:=by
 cases k <;> first | rfl | (simp [Ty.agg] at ha; done) | (simp [isKey] at hk; done)
theorem kvj {k:Ty} (hk:isKey k=true) (a b:k.den):keyB (keyV k a) (keyV k b)=true↔a=b:=by
 have hi:valsK k a=valsK k b↔a=b:=⟨kiw k a b hk,fun e=>by rw [e]⟩
 cases ha:k.agg with
 | true=>
  rw [knQ hk ha,knQ hk ha]
  show keyBL (valsK k a) (valsK k b)=true↔_
  rw [koT (kdG k a) (kdG k b),hi]
 | false=>
  have sa:=kdG k a; have sb:=kdG k b
  rw [knT hk ha] at sa sb
  have s1:=sa _ (List.mem_singleton_self _)
  have s2:=sb _ (List.mem_singleton_self _)
  rw [kwG (by cases h1:keyV k a <;> rw [h1] at s1 <;> first | rfl | exact s1.elim),kpe s1 s2,<-hi,knT hk ha,knT hk ha]
  simp
theorem kpm {k:Ty} (hk:isKey k=true) (a b:k.den) [Decidable (a=b)]:keyB (keyV k a) (keyV k b)=decide (a=b):=by
 have:=kvj hk a b
 by_cases h:a=b
 ·subst h; rw [(kvj hk a a).2 rfl]; simp
 ·have h2:¬ keyB (keyV k a) (keyV k b)=true:=fun e=>h (this.1 e)
  rw [jch] at h2; rw [h2]; simp [h]
theorem kqX {t:Ty} (ha:t.agg=false) (hk:isKey t=true):t.wd=1:=by
 cases t <;> first | rfl | (simp [Ty.agg] at ha; done) | (simp [isKey] at hk; done)
theorem kpA {rec_:TypeId->Ty->Bool} {recC:TypeId->List Value->Prop} (hrec:∀ T t,rec_ T t=true->∀ x:t.den,isKey t=true->recC T (valsK t x)):∀ (fs:List Field) (o:Nat) (t:Ty) (x:t.den),keyFs P rec_ fs o t=true->isKey t=true->OkFs P recC fs o (valsK t x)
 | [],o,t,x,h,_=>by simp [keyFs] at h
 | [f],o,t,x,h,hk=>by
  simp only [keyFs,jac,jai,bne_iff_ne,ne_eq] at h
  obtain ⟨⟨⟨⟨h1,h2⟩,h3⟩,h4⟩,h5⟩:=h
  exact ⟨valsK t x,[],by simp,h1,h2,by rw [kcH t x hk,h3],⟨_,h4,fun e=>by rw [h3]; exact kqX e hk⟩,hrec _ _ h5 x hk,rfl⟩
 | f::g::fs,o,t,x,h,hk=>by
  cases t <;> simp only [keyFs,jac,jai,bne_iff_ne,ne_eq,jaj] at h
  rename_i u v
  obtain ⟨⟨⟨⟨⟨h1,h2⟩,h3⟩,h4⟩,h5⟩,h6⟩:=h
  simp only [isKey,jac] at hk
  refine ⟨valsK u x.1,valsK v x.2,rfl,h1,h2,by rw [kcH u _ hk.1,h3],⟨_,h4,fun e=>by rw [h3]; exact kqX e hk.1⟩,hrec _ _ h5 _ hk.1,?_⟩
  rw [h3]
  exact kpA hrec (g::fs) _ v x.2 h6 hk.2
theorem kmd:∀ (d:Nat) (T:TypeId) (t:Ty),keyTF P d T t=true->∀ x:t.den,isKey t=true->OkC P d T (valsK t x)
 | 0,T,t,h,_,_=>by simp [keyTF] at h
 | d+1,T,t,h,x,hk=>by
  unfold keyTF at h
  unfold OkC
  split at h
  ·rename_i hT; simp only [hT]; simp only [jai] at h; subst h; exact ⟨_,rfl⟩
  ·rename_i hT; simp only [hT]; simp only [jai] at h; subst h; exact ⟨_,rfl⟩
  ·rename_i hT; simp only [hT]; simp only [jai] at h; subst h; exact ⟨_,rfl⟩
  ·rename_i fs hT
   simp only [hT]
   simp only [jac,jbi] at h
   refine ⟨h.1,?_⟩
   have h2:=h.2
   split at h2
   ·rename_i f u hfs
    rw [hfs]
    exact kpA (fun T t h x hk=>kmd d T t h x hk) [f] 0 u x h2 hk
   ·cases h2
   ·exact kpA (fun T t h x hk=>kmd d T t h x hk) _ 0 _ _ h2 hk
  ·rename_i n e hT
   simp only [hT]
   split at h
   ·rename_i m u
    simp only [jac,jai] at h
    obtain ⟨⟨⟨h1,h2⟩,h3⟩,h4⟩:=h
    refine ⟨⟨_,h3,fun e=>by rw [h2]; exact kqX e hk⟩,x.l.map (valsK u),by rw [jar,x.h,h1],rfl,fun c hc=>?_⟩
    obtain ⟨y,_,rfl⟩:=jay.1 hc
    exact ⟨by rw [kcH u y hk,h2],kmd d e u h4 y hk⟩
   ·cases h
  ·cases h
theorem kle {kt:TypeId} {k:Ty} (hk:isKey k=true) (h:keyT P kt k=true) (a:k.den):kba P kt (keyV k a):=by
 cases ha:k.agg with
 | true=>
  have:aggO P kt=some true/\keyTF P 9 kt k=true:=by
   cases k <;> first | (simp [Ty.agg] at ha; done) | (simp only [keyT,jac,jai] at h; exact ⟨h.1.2,h.2⟩)
  rw [knQ hk ha]
  exact ⟨this.1,kmd 9 kt k this.2 a hk⟩
 | false=>
  cases k <;> first | (simp [Ty.agg] at ha; done) | (simp [isKey] at hk; done) | skip
  ·simpa [keyV,kba,keyT] using h
  ·simpa [keyV,kba] using kqo h
  ·simpa [keyV,kba,ks] using kgZ h
theorem kpy {z:AH}:∀ {l:List AV} {vs:List Value},SnapL z l (vs.map .sc)->l=vs.map .sc
 | [],[],_=>rfl
 | [],_::_,h=>by cases h
 | _::_,[],h=>by cases h
 | a::l,v::vs,h=>by
  cases h with
  | cons h1 h2=>rw [h1.sc_inv,kpy h2]; rfl
theorem kwt:∀ l:List Value,scV (l.map .sc)=some l
 | []=>rfl
 | v::l=>by simp only [jap,scV,kwt l]; rfl
theorem kpl {k:Ty} (hk:isKey k=true) {v:TV sem} {a:AV} (R:Rel P κ ln z c s env h n) (hv:TVR P κ ln z s.n v a) {x:k.den} {ids:List Nat} (hs:snapV (A:=sem) c s k v=some (x,ids)):keyA a=some (keyV k x):=by
 obtain ⟨_,h1,_⟩:=kbf R hv hs
 cases ha:k.agg with
 | true=>
  have:k.av x = .ag (k.enc x):=by unfold Ty.av; rw [if_pos ha]
  rw [this] at h1
  obtain ⟨cs,rfl,h2⟩:=h1.ag_inv
  rw [kgW k x hk] at h2
  rw [kpy h2,knQ hk ha]
  show (scV _).map _=_
  rw [kwt]; rfl
 | false=>
  have:k.av x = .sc (keyV k x):=by
   unfold Ty.av; rw [if_neg (by simp [ha]),kgW k x hk,knT hk ha]; rfl
  rw [this] at h1
  rw [h1.sc_inv]; rfl
theorem kcv:∀ {v:Ty},v.flat=true->v.dat=true
 | .i _,_ | .b,_ | .s,_ | .un,_=>rfl
 | .w t,h=>kcv (v:=t) h
 | .pr t u,h=>by simp only [Ty.flat,jac] at h; simp [Ty.dat,kcv h.1,kcv h.2]
theorem klA:∀ (v:Ty) (x:v.den),v.flat=true->∃ vs:List Value,v.enc x=vs.map .sc/\∀ w∈vs,w.oneCell'=true
 | .i k,x,_=>⟨[.int k x],rfl,by simp [Value.oneCell']⟩
 | .b,x,_=>⟨[.bool x],rfl,by simp [Value.oneCell']⟩
 | .s,x,_=>⟨[ks x],rfl,by simp [Value.oneCell']⟩
 | .un,x,_=>⟨[],rfl,by simp⟩
 | .w t,x,h=>klA t x h
 | .pr t u,x,h=>by
  simp only [Ty.flat,jac] at h
  obtain ⟨a,e1,g1⟩:=klA t x.1 h.1
  obtain ⟨b,e2,g2⟩:=klA u x.2 h.2
  refine ⟨a++b,by show t.enc x.1++u.enc x.2=_; rw [e1,e2,jcx],fun w hw=>?_⟩
  rcases jaz.1 hw with hw | hw
  ·exact g1 w hw
  ·exact g2 w hw
theorem kjj {v:Ty} (hf:v.flat=true) {x:v.den} {a:AV} {z:AH} (h:Snap z a (v.av x)):a=v.av x:=by
 obtain ⟨vs,e,_⟩:=klA v x hf
 cases ha:v.agg with
 | true=>
  have hv:v.av x = .ag (v.enc x):=by unfold Ty.av; rw [if_pos ha]
  rw [hv] at h ⊢
  obtain ⟨cs,rfl,h2⟩:=h.ag_inv
  rw [e] at h2 ⊢
  rw [kpy h2]
 | false=>
  have:∃ w,v.av x = .sc w:=by
   cases v <;> simp [Ty.flat,Ty.agg] at hf ha <;> exact ⟨_,rfl⟩
  obtain ⟨w,hw⟩:=this
  rw [hw] at h ⊢
  exact h.sc_inv
theorem kqD {v:Ty} (hf:v.flat=true) (x:v.den):(v.av x).vl=true:=by
 cases v <;> simp [Ty.flat] at hf <;> rfl
theorem zv_ok {e:TypeId} {v:Ty} (hf:v.flat=true) {z0:v.den} (hz:zeroD (A:=sem) v=some z0) (hc:(zvO P e).any (zvOk v)=true):∃ u,zvO P e=some u/\cst u=v.av z0:=by
 obtain ⟨u,hu,hc⟩:=(jcm _ _).1 hc
 refine ⟨u,hu,?_⟩
 unfold zvOk at hc
 split at hc
 ·rename_i cs hcs
  simp only [jac] at hc
  obtain ⟨rest,hr,hre⟩:=(jcm _ _).1 hc.2
  obtain rfl:=jcp.1 hre
  obtain ⟨a,ea,hsn⟩:=kdC (z:=fun _=>none) v z0 _ _ (kcv hf) hz hr
  rw [jbd] at ea; subst ea
  rw [hcs]
  refine kjj hf (z:=fun _=>none) ?_
  have:v.av z0 = .ag (v.enc z0):=by unfold Ty.av; rw [if_pos hc.1]
  rw [this]; exact .agL hsn
 ·rename_i w hcw
  simp only [jac,jbi] at hc
  obtain ⟨rest,hr,hre⟩:=(jcm _ _).1 hc.2
  obtain rfl:=jcp.1 hre
  obtain ⟨a,ea,hsn⟩:=kdC (z:=fun _=>none) v z0 _ _ (kcv hf) hz hr
  rw [jbd] at ea; subst ea
  rw [hcw]
  rw [kgj hc.1 (kcv hf)] at hsn
  cases hsn with
  | cons k1 _=>exact kjj hf k1
 ·cases hc
theorem kqR {k:Ty} {β:Type} (hk:isKey k=true) (l:List (k.den×β)) (x:k.den):mgetT k l x = @mget _ _ (kbr k hk) l x:=by
 unfold mgetT; rw [dif_pos hk]
theorem kyd {k:Ty} {β:Type} (hk:isKey k=true) (l:List (k.den×β)) (x:k.den) (v:β):mputT k l x v = @mput _ _ (kbr k hk) l x v:=by
 unfold mputT; rw [dif_pos hk]
theorem ksd (R:Rel P κ ln z c s env h n) {T:TypeId} {m key:Operand} {ok:Bool} {u v:TV sem} (hu:TVR P κ ln z s.n u (ev env m)) (hv:TVR P κ ln z s.n v (ev env key)) (hk:krk P c s T u v ok Kf=some r):Res P κ ln z c s env h n ⟨d,.lookup T m key ok,ty,pos,after,g⟩ Kf r:=by
 unfold krk at hk
 split at hk
 ·rename_i id
  split at hk
  ·rename_i k w l kt e hB hT
   split at hk
   ·rename_i x z0 hx hz0
    simp only at hk
    split at hk
    ·rename_i hc
     obtain ⟨c1,c2,c3,c5⟩:=hc
     have hd:=kcv c3
     obtain ⟨zv,hzv,hcz⟩:=zv_ok c3 hz0 c5
     have hkey:=kpl c1 R hv hx
     generalize hm:ev env m=a at hu
     cases R.blk _ _ hB with
     | mp _ _ _ q _ _ hq hh=>
      cases hu with
      | mp _ q' hN hq'=>
       rw [hq] at hq'; cases hq'
       have hh':h q=some (.map (List.map (kvE (keyV k) w.av) l)):=hh
       have hfree:∀ y:w.den,TVR P κ ln z s.n (.c w y) (w.av y):=fun y=>.free hd
       have key:=fun (F:AV->Prop) hF=>@lkK P h _ _ (kbr k c1) T kt e q (ev env key) l (keyV k) w.av x z0 zv ok F hkey hT hzv hcz (fun a b=>@kpm _ c1 a b (kbr k c1 a b)) (kle c1 c2) hh' hF
       cases ok with
       | true=>
        simp only [if_true] at hk
        refine R.q (fun K hk=>?_) (.tp _ [w.av ((mgetT k l x).getD z0),.sc (.bool (mgetT k l x).isSome)] (.cons _ _ _ _ (hfree _) (.cons _ _ _ _ (.bool _) .nil))) hk
        simp only [aop,hm]
        refine key _ ?_
        simp only [if_true]
        rw [<-kqR c1]; exact hk
       | false=>
        simp only [jaj,if_false] at hk
        refine R.q (fun K hk=>?_) (hfree _) hk
        simp only [aop,hm]
        refine key _ ?_
        simp only [jaj,if_false]
        rw [<-kqR c1]; exact hk
    ·exact kaa hk
   ·exact kaa hk
  ·exact kaa hk
 ·exact kaa hk
theorem ksj (R:Rel P κ ln z c s env h n) {T:TypeId} {m key x:Operand} {u v w:TV sem} (hu:TVR P κ ln z s.n u (ev env m)) (hv:TVR P κ ln z s.n v (ev env key)) (hw:TVR P κ ln z s.n w (ev env x)) (hk:kqG P c s T u v w Kf=some r):Res P κ ln z c s env h n ⟨d,.mapUpdate T m key x,ty,pos,after,g⟩ Kf r:=by
 unfold kqG at hk
 split at hk
 ·rename_i id
  split at hk
  ·rename_i k w' l kt e hB hT
   split at hk
   ·rename_i y y' hy hy'
    split at hk
    ·rename_i hc
     obtain ⟨c1,c2⟩:=hc
     have hkey:=kpl c1 R hv hy
     generalize hm:ev env m=a at hu
     cases R.blk _ _ (kab hB) with
     | mp _ _ _ q _ hf hq hh=>
      cases hu with
      | mp _ q' hN hq'=>
       rw [hq] at hq'; cases hq'
       obtain ⟨_,hs1,_⟩:=kbf R hw hy'
       have hval:ev env x=w'.av y':=kjj hf hs1
       have hh':h q=some (.map (List.map (kvE (keyV k) w'.av) l)):=hh
       have hput:=@knc _ _ (kbr k c1) _ w'.av (fun a b=>@kpm _ c1 a b (kbr k c1 a b)) y y' l []
       refine ⟨.ud,_,.ud,updH h q (.map ((mputT k l y y').map (kvE (keyV k) w'.av))),n,κ,ln,z,fun K hk=>?_,hk,R.set hB hq (.mp k w' _ q c1 hf hq (by simp only [updH,if_true])),.ud,jah _,fun _ _=>⟨rfl,fun _=>rfl⟩,fun hc=>by cases hc⟩
       simp only [aop,hm,hval,kjv,hkey,hT,hh']
       refine ⟨kle c1 c2 y,fun x hx=>?_,kqD hf y',?_⟩
       ·obtain ⟨p,_,rfl⟩:=jay.1 hx; exact kle c1 c2 _
       ·rw [kyd c1] at hk
        simp only [List.length_nil,jba] at hput
        generalize findA (keyV k y) (List.map (kvE (keyV k) w'.av) l) 0=fq at hput ⊢
        cases fq with
        | none=>simp only at hput ⊢; rw [hput]; exact hk
        | some q=>obtain ⟨i,a⟩:=q; simp only at hput ⊢; rw [hput]; exact hk
    ·exact kaa hk
   ·exact kaa hk
  ·exact kaa hk
 ·exact kaa hk
theorem krJ {κ β:Type} [DecidableEq κ] {kf:κ->Value} {vf:β->AV} (hkb:∀ a b,keyB (kf a) (kf b)=decide (a=b)) (k:κ):∀ (E:List (κ×β)) (i:Nat),findA (kf k) (E.map (kvE kf vf)) i=(mget E k).map fun v=>(i+midxN k E,vf v)
 | [],i=>rfl
 | p::r,i=>by
  simp only [jap,findA,mget,midxN,hkb,jai]
  split
  ·rfl
  ·rw [krJ hkb k r (i+1)]
   cases mget r k with
   | none=>rfl
   | some v=>simp only [jcg]; congr 2; omega
theorem kqv {κ β:Type} [DecidableEq κ] (k:κ):∀ (E:List (κ×β)),mget E k=none->midxN k E=E.length
 | [],_=>rfl
 | p::r,h=>by
  simp only [mget] at h
  split at h
  ·cases h
  ·rename_i hne; simp only [midxN,if_neg hne,kqv k r h,jdd]
theorem ksf (R:Rel P κ ln z c s env h n) {T:TypeId} {m key:Operand} {u v:TV sem} (hu:TVR P κ ln z s.n u (ev env m)) (hv:TVR P κ ln z s.n v (ev env key)) (hk:krl P c s T u v Kf=some r):Res P κ ln z c s env h n ⟨d,.mapEntry T m key,ty,pos,after,g⟩ Kf r:=by
 unfold krl at hk
 split at hk
 ·rename_i id
  split at hk
  ·rename_i k w l kt e hB hT
   split at hk
   ·rename_i x z0 hx hz0
    split at hk
    ·rename_i hc
     obtain ⟨c1,c2,c3,c5⟩:=hc
     have hd:=kcv c3
     obtain ⟨zv,hzv,hcz⟩:=zv_ok c3 hz0 c5
     have hkey:=kpl c1 R hv hx
     generalize hm:ev env m=a at hu
     cases R.blk _ _ (kab hB) with
     | mp _ _ _ q _ hf hq hh=>
      cases hu with
      | mp _ q' hN hq'=>
       rw [hq] at hq'; cases hq'
       have hh':h q=some (.map (List.map (kvE (keyV k) w.av) l)):=hh
       have hfree:∀ y:w.den,TVR P κ ln z s.n (.c w y) (w.av y):=fun y=>.free hd
       have hf2:=@krJ _ _ (kbr k c1) _ w.av (fun a b=>@kpm _ c1 a b (kbr k c1 a b)) x l 0
       refine ⟨_,_,.tp [w.av ((mgetT k l x).getD z0),.sc (.int .i64 (midxT k l x))],updH h q (.map ((mentT k l x z0).map (kvE (keyV k) w.av))),n,κ,ln,z,fun K hk=>?_,hk,R.set hB hq (.mp k w _ q c1 hf hq (by simp only [updH,if_true])),.tp _ _ (.cons _ _ _ _ (hfree _) (.cons _ _ _ _ (.int _ _) .nil)),jah _,fun _ _=>⟨rfl,fun _=>rfl⟩,fun hc=>by cases hc⟩
       simp only [aop,hm,klf,hkey,hT,hh']
       refine ⟨kle c1 c2 x,fun x hx=>?_,?_⟩
       ·obtain ⟨p,_,rfl⟩:=jay.1 hx; exact kle c1 c2 _
       ·rw [hf2]
        have e1:mgetT k l x = @mget _ _ (kbr k c1) l x:=kqR c1 l x
        have e2:midxT k l x=((@midxN _ _ (kbr k c1) x l:Nat):Int):=by unfold midxT; rw [dif_pos c1]; rfl
        have e3:mentT k l x z0 = @ment _ _ (kbr k c1) l x z0:=by unfold mentT; rw [dif_pos c1]
        rw [e1,e2,e3] at hk
        unfold ment at hk
        have e4:=@kqv _ w.den (kbr k c1) x l
        generalize @mget _ _ (kbr k c1) l x=gg at hk e4 ⊢
        cases gg with
        | some v0=>
         simp only [jcg,jca,jcb] at hk ⊢
         exact hk
        | none=>
         simp only [Option.map_none,Option.getD_none,hzv] at hk ⊢
         rw [e4 rfl] at hk
         rw [hcz]
         refine ⟨kqD hf _,?_⟩
         rw [jcx] at hk
         simpa using hk
    ·exact kaa hk
   ·exact kaa hk
  ·exact kaa hk
 ·exact kaa hk
theorem ktu (R:Rel P κ ln z c s env h n) {T:TypeId} {m st x:Operand} {u v w:TV sem} (hu:TVR P κ ln z s.n u (ev env m)) (hv:TVR P κ ln z s.n v (ev env st)) (hw:TVR P κ ln z s.n w (ev env x)) (hk:kuk c s u v w Kf=some r):Res P κ ln z c s env h n ⟨d,.entryStore T m st x,ty,pos,after,g⟩ Kf r:=by
 unfold kuk at hk
 split at hk
 ·rename_i id
  split at hk
  ·rename_i k w' l hB
   split at hk
   ·rename_i i y' hi hy'
    obtain ⟨p0,hg,hk⟩:=jaa.1 hk
    generalize hm:ev env m=a at hu
    cases R.blk _ _ (kab hB) with
    | mp _ _ _ q c1 hf hq hh=>
     cases hu with
     | mp _ q' hN hq'=>
      rw [hq] at hq'; cases hq'
      obtain ⟨_,hs1,_⟩:=kbf R hw hy'
      have hval:ev env x=w'.av y':=kjj hf hs1
      have hst:ev env st = .sc (.int .i64 i):=by
       unfold keM at hi
       split at hi
       ·cases hi
        generalize ev env st=b at hv
        cases hv with
        | c _ _ _ _ hs=>exact hs.sc_inv
       ·cases hi
      have hh':h q=some (.map (List.map (kvE (keyV k) w'.av) l)):=hh
      obtain ⟨h0,hlt⟩:=kmS hg
      refine ⟨.ud,_,.ud,updH h q (.map ((mset l i y').map (kvE (keyV k) w'.av))),n,κ,ln,z,fun K hk=>?_,hk,R.set hB hq (.mp k w' _ q c1 hf hq (by simp only [updH,if_true])),.ud,jah _,fun _ _=>⟨rfl,fun _=>rfl⟩,fun hc=>by cases hc⟩
      simp only [aop,hm,hval,hst,knq,hh']
      refine ⟨h0,kqD hf y',kvE (keyV k) w'.av p0,by rw [jaw,hlt]; rfl,?_⟩
      unfold mset at hk
      rw [hlt] at hk
      simp only at hk
      rw [List.map_set] at hk
      exact hk
   ·exact kaa hk
  ·exact kaa hk
 ·exact kaa hk
end
section
variable {P:Program} {κ κ':Nat->Option Nat} {ln ln':Nat->Nat} {z z':AH} {c:Cx sem} {s:TS sem} {env:Env} {h h':AH} {n n' N N':Nat}
mutual
theorem TVR.has_lt:∀ {v:TV sem} {a:AV},TVR P κ ln z N v a->∀ id,v.has id=true->id<N
 | _,_,.un _,id,h | _,_,.gs _ _,id,h | _,_,.ud,id,h | _,_,.c _ _ _ _ _,id,h | _,_,.kb _,id,h | _,_,.sc _ _,id,h | _,_,.fq _ _ _ _ _ _,id,h | _,_,.cv _ _ _ _ _ _,id,h=>by simp [TV.has] at h
 | _,_,.ptr i j q hN _,id,h | _,_,.adr i _ j q hN _ _ _,id,h | _,_,.aa i _ q hN _ _ _,id,h | _,_,.mw0 i hN _,id,h | _,_,.mw i q hN _,id,h | _,_,.ms0 i _ _ hN _ _ _,id,h | _,_,.ms i _ _ q hN _ _ _ _,id,h | _,_,.mp i q hN _,id,h | _,_,.fw0 i hN _,id,h | _,_,.fw i q hN _,id,h | _,_,.fr0 i _ _ hN _ _,id,h | _,_,.fr i _ _ _ hN _ _,id,h | _,_,.fo i _ _ _ hN _ _ _,id,h | _,_,.fa i _ _ _ _ _ hN _ _ _ _,id,h | _,_,.yl i _ hN _,id,h | _,_,.kp i hN,id,h=>by
  simp only [TV.has,beq_iff_eq] at h; omega
 | _,_,.fn g vs as hs,id,h=>TVRs.has_lt hs id h
 | _,_,.tp vs as hs,id,h=>TVRs.has_lt hs id h
 | _,_,.ag vs as hs _,id,h=>TVRs.has_lt hs id h
theorem TVRs.has_lt:∀ {vs:List (TV sem)} {as:List AV},TVRs P κ ln z N vs as->∀ id,TV.has.hasL id vs=true->id<N
 | _,_,.nil,id,h=>by simp [TV.has.hasL] at h
 | _,_,.cons v a vs as hv hs,id,h=>by
  simp only [TV.has.hasL,jav] at h
  rcases h with h | h
  ·exact TVR.has_lt hv id h
  ·exact TVRs.has_lt hs id h
end
mutual
theorem TVR.congr:∀ {v:TV sem} {a:AV},TVR P κ ln z N v a->(∀ id,v.has id=true->κ' id = κ id/\ln' id=ln id/\id<N')->(∀ q B,z q=some B->z' q=some B)->TVR P κ' ln' z' N' v a
 | _,_,.un a,_,_=>.un a
 | _,_,.ud,_,_=>.ud
 | _,_,.gs t l,_,_=>.gs t l
 | _,_,.yl id q hi h,hc,_=>by obtain ⟨h1,h2,h3⟩:=hc id (by simp [TV.has]); exact .yl id q h3 (by rw [h1]; exact h)
 | _,_,.kp id hi,hc,_=>by obtain ⟨h1,h2,h3⟩:=hc id (by simp [TV.has]); exact .kp id h3
 | _,_,.c t x a hd h,_,hz=>.c t x a hd (h.mono hz)
 | _,_,.kb b,_,_=>.kb b
 | _,_,.sc v h1,_,_=>.sc v h1
 | _,_,.ptr id j q hi h,hc,_=>by obtain ⟨h1,h2,h3⟩:=hc id (by simp [TV.has]); exact .ptr id j q h3 (by rw [h1]; exact h)
 | _,_,.adr id i j q hi h g0 g1,hc,_=>by obtain ⟨h1,h2,h3⟩:=hc id (by simp [TV.has]); exact .adr id i j q h3 (by rw [h1]; exact h) g0 (by rw [h2]; exact g1)
 | _,_,.aa id i q hi h g0 g1,hc,_=>by obtain ⟨h1,h2,h3⟩:=hc id (by simp [TV.has]); exact .aa id i q h3 (by rw [h1]; exact h) g0 (by rw [h2]; exact g1)
 | _,_,.fq t x o a hd h,_,hz=>.fq t x o a hd (h.mono hz)
 | _,_,.mw0 id hi h,hc,_=>by obtain ⟨h1,h2,h3⟩:=hc id (by simp [TV.has]); exact .mw0 id h3 (by rw [h1]; exact h)
 | _,_,.mw id q hi h,hc,_=>by obtain ⟨h1,h2,h3⟩:=hc id (by simp [TV.has]); rw [<-h2]; exact .mw id q h3 (by rw [h1]; exact h)
 | _,_,.ms0 id o l hi h ho hl,hc,_=>by obtain ⟨h1,h2,h3⟩:=hc id (by simp [TV.has]); exact .ms0 id o l h3 (by rw [h1]; exact h) ho hl
 | _,_,.ms id o l q hi h g0 g1 g2,hc,_=>by obtain ⟨h1,h2,h3⟩:=hc id (by simp [TV.has]); exact .ms id o l q h3 (by rw [h1]; exact h) g0 g1 (by rw [h2]; exact g2)
 | _,_,.mp id q hi h,hc,_=>by obtain ⟨h1,h2,h3⟩:=hc id (by simp [TV.has]); exact .mp id q h3 (by rw [h1]; exact h)
 | _,_,.fw0 id hi h,hc,_=>by obtain ⟨h1,h2,h3⟩:=hc id (by simp [TV.has]); exact .fw0 id h3 (by rw [h1]; exact h)
 | _,_,.fw id q hi h,hc,_=>by obtain ⟨h1,h2,h3⟩:=hc id (by simp [TV.has]); rw [<-h2]; exact .fw id q h3 (by rw [h1]; exact h)
 | _,_,.fr0 id i m hi h0 h,hc,_=>by obtain ⟨h1,h2,h3⟩:=hc id (by simp [TV.has]); exact .fr0 id i m h3 h0 (by rw [h2]; exact h)
 | _,_,.fr id i r m hi h0 h,hc,_=>by obtain ⟨h1,h2,h3⟩:=hc id (by simp [TV.has]); exact .fr id i r m h3 h0 (by rw [h2]; exact h)
 | _,_,.fo id i j q hi h g0 g1,hc,_=>by obtain ⟨h1,h2,h3⟩:=hc id (by simp [TV.has]); exact .fo id i j q h3 (by rw [h1]; exact h) g0 (by rw [h2]; exact g1)
 | _,_,.fa id i k o r m hi h0 h hk hm,hc,_=>by obtain ⟨h1,h2,h3⟩:=hc id (by simp [TV.has]); exact .fa id i k o r m h3 h0 (by rw [h2]; exact h) hk hm
 | _,_,.fn g vs as h,hc,hz=>.fn g vs as (TVRs.congr h (fun id hi=>hc id hi) hz)
 | _,_,.cv m x y F a h,_,_=>.cv m x y F a h
 | _,_,.tp vs as h,hc,hz=>.tp vs as (TVRs.congr h (fun id hi=>hc id hi) hz)
 | _,_,.ag vs as h h1,hc,hz=>.ag vs as (TVRs.congr h (fun id hi=>hc id hi) hz) h1
theorem TVRs.congr:∀ {vs:List (TV sem)} {as:List AV},TVRs P κ ln z N vs as->(∀ id,TV.has.hasL id vs=true->κ' id = κ id/\ln' id=ln id/\id<N')->(∀ q B,z q=some B->z' q=some B)->TVRs P κ' ln' z' N' vs as
 | _,_,.nil,_,_=>.nil
 | _,_,.cons v a vs as h hs,hc,hz=>.cons v a vs as (TVR.congr h (fun id hi=>hc id (by simp [TV.has.hasL,hi])) hz) (TVRs.congr hs (fun id hi=>hc id (by simp [TV.has.hasL,hi])) hz)
end
theorem BR.congr {id:Nat} {B:TB sem} (hb:BR P κ ln z h N id B) (hi:κ' id = κ id/\ln' id=ln id) (hc:∀ i,B.has i=true->κ' i = κ i/\ln' i=ln i/\i<N') (hz:∀ q B,z q=some B->z' q=some B):BR P κ' ln' z' h N' id B:=by
 cases hb with
 | bx T vs q as hq hB hv h1=>exact .bx T vs q as (by rw [hi.1]; exact hq) hB (hv.congr (fun i h=>hc i h) hz) h1
 | el T t x q cs hd hq hB hv h1 hl=>exact .el T t x q cs hd (by rw [hi.1]; exact hq) hB (hv.mono hz) h1 (by rw [hi.2]; exact hl)
 | sl0 T t l hd hq hl hn=>exact .sl0 T t l hd (by rw [hi.1]; exact hq) hl (by rw [hi.2]; exact hn)
 | sl T t l q es hd hq hB hv h1 hn=>exact .sl T t l q es hd (by rw [hi.1]; exact hq) hB (hv.mono hz) h1 (by rw [hi.2]; exact hn)
 | mp k v l q hk hf hq hB=>exact .mp k v l q hk hf (by rw [hi.1]; exact hq) hB
 | si x q hq h0 hB=>exact .si x q (by rw [hi.1]; exact hq) h0 hB
 | fm0 T t j U u l ho hd hq hl hn=>exact .fm0 T t j U u l ho hd (by rw [hi.1]; exact hq) hl (by rw [hi.2]; exact hn)
 | fm T t j U u l ho q es hd hq hB hn hl hv h0 h1=>exact .fm T t j U u l ho q es hd (by rw [hi.1]; exact hq) hB (by rw [hi.2]; exact hn) hl (fun i x e rm h2 h3 h4 h5=>(hv i x e rm h2 h3 (by rw [<-hi.2]; exact h4) h5).mono hz fun _ _ _ h=>h) (by rw [hi.2]; exact h0) h1
theorem BR.has_lt {id:Nat} {B:TB sem} (hb:BR P κ ln z h N id B):∀ i,B.has i=true->i<N:=by
 intro i hi
 cases hb with
 | bx T vs q as hq hB hv h1=>exact hv.has_lt i hi
 | _=>simp [TB.has] at hi
structure MExt (m m':Mt sem):Prop where
 ids:∀ p q,alk m.ids p=some q->alk m'.ids p=some q
 sn:∀ x∈m.sn,x∈m'.sn
theorem MExt.refl (m:Mt sem):MExt m m:=⟨fun _ _ h=>h,fun _ h=>h⟩
theorem MExt.trans {m m1 m2:Mt sem} (h:MExt m m1) (g:MExt m1 m2):MExt m m2:=⟨fun p q e=>g.ids p q (h.ids p q e),fun x e=>g.sn x (h.sn x e)⟩
theorem khz {m m':Mt sem} {p q:Nat} (h:m.bindId p q=some m'):MExt m m'/\alk m'.ids p=some q/\m'.cs=m.cs/\m'.sn=m.sn/\(∀ x y a,alk m'.ids x=some a->alk m'.ids y=some a->(∀ x y a,alk m.ids x=some a->alk m.ids y=some a->x=y)->x=y):=by
 unfold Mt.bindId at h
 split at h
 ·rename_i q' hq
  split at h
  ·rename_i e; cases h; subst e
   exact ⟨.refl _,hq,rfl,rfl,fun x y a hx hy hi=>hi x y a hx hy⟩
  ·cases h
 ·rename_i hq
  split at h
  ·rename_i hall
   cases h
   have mem:∀ (l:List (Nat×Nat)) (x a:Nat),alk l x=some a->∃ y∈l,y.2=a:=by
    intro l
    induction l with
    | nil=>intro x a h; simp [alk] at h
    | cons y l ih=>
     intro x a h
     simp only [alk] at h
     split at h
     ·cases h; exact ⟨y,by simp,rfl⟩
     ·obtain ⟨w,hw,e⟩:=ih x a h; exact ⟨w,by simp [hw],e⟩
   refine ⟨⟨fun p' q' e=>?_,fun x h=>h⟩,by simp [alk],rfl,rfl,fun x y a hx hy hi=>?_⟩
   ·simp only [alk]
    rw [if_neg (by rintro rfl; rw [hq] at e; cases e)]; exact e
   ·simp only [alk] at hx hy
    split at hx
    ·rename_i e1
     split at hy
     ·rename_i e2; omega
     ·cases hx
      obtain ⟨w,hw,e⟩:=mem _ _ _ hy
      have:=jam.1 hall w hw
      simp [e] at this
    ·split at hy
     ·cases hy
      obtain ⟨w,hw,e⟩:=mem _ _ _ hx
      have:=jam.1 hall w hw
      simp [e] at this
     ·exact hi x y a hx hy
  ·cases h
structure Fin (o:Nat->List Nat) (κ:Nat->Option Nat) (ln:Nat->Nat) (h z:AH) (m:Mt sem) (κ2:Nat->Option Nat) (ln2:Nat->Nat) (z2:AH) (N2:Nat):Prop where
 k:∀ p q,alk m.ids p=some q->κ2 p = κ q/\ln2 p=ln q/\p<N2
 z:∀ q B,hz o h z m.sn q=some B->z2 q=some B
theorem Fin.back {o:Nat->List Nat} {m m':Mt sem} {κ2:Nat->Option Nat} {ln2:Nat->Nat} {z2:AH} {N2:Nat} (hzin:∀ q B,z q=some B->h q=some B) (e:MExt m m') (f:Fin o κ ln h z m' κ2 ln2 z2 N2):Fin o κ ln h z m κ2 ln2 z2 N2:=
 ⟨fun p q hq=>f.k p q (e.ids p q hq),fun q B hq=>f.z q B (kcM hzin e.sn q B hq)⟩
def Inj (m:Mt sem):Prop:=∀ x y a,alk m.ids x=some a->alk m.ids y=some a->x=y
mutual
theorem krw (R:Rel P κ ln z c s env h n):∀ (pv:PV) {v:TV sem} {a:AV} {m m':Mt sem},TVR P κ ln z s.n v a->mtV c s pv v m=some m'->
  ∃ new,m'.cs=m.cs++new/\MExt m m'/\(Inj m->Inj m')/\∀ κ2 ln2 z2 N2,Fin (ows κ ln c s) κ ln h z m' κ2 ln2 z2 N2->∀ rest,∃ v',unV pv (new++rest)=(v',rest)/\TVR P κ2 ln2 z2 N2 v' a
 | .un,v,a,m,m',hv,hm=>by simp only [mtV,Option.some.injEq] at hm; subst hm; exact ⟨[],by simp,.refl _,id,fun _ _ _ _ _ rest=>⟨.un,rfl,.un a⟩⟩
 | .ud,v,a,m,m',hv,hm=>by
  cases v <;> simp only [mtV,Option.some.injEq,reduceCtorEq] at hm
  subst hm; cases hv
  exact ⟨[],by simp,.refl _,id,fun _ _ _ _ _ rest=>⟨.ud,rfl,.ud⟩⟩
 | .gs t,v,a,m,m',hv,hm=>by
  cases v <;> simp only [mtV,jab,reduceCtorEq] at hm
  rename_i t' l
  obtain ⟨y,hy,rfl⟩:=hm
  obtain ⟨e,rfl⟩:=kai hy
  cases e
  cases hv
  exact ⟨[⟨.sl t,l⟩],rfl,⟨fun _ _ h=>h,fun x hx=>hx⟩,id,fun _ _ _ _ _ rest=>⟨.gs t l,by simp [unV,tcast],.gs t l⟩⟩
 | .c t,v,a,m,m',hv,hm=>by
  simp only [mtV,jab] at hm
  obtain ⟨y,hy,rfl⟩:=hm
  obtain ⟨hd,h1,h2⟩:=kbf R hv hy
  refine ⟨[⟨t,y.1⟩],rfl,⟨fun _ _ h=>h,fun x hx=>by simp [hx]⟩,id,fun κ2 ln2 z2 N2 f rest=>⟨.c t y.1,rfl,.c t y.1 a hd (h1.mono fun q B hq=>f.z q B (kcM R.zin (fun i hi=>by simp [hi]) q B hq))⟩⟩
 | .sc u,v,a,m,m',hv,hm=>by
  cases v <;> simp only [mtV,jcw,Option.some.injEq,reduceCtorEq] at hm
  rename_i w
  obtain ⟨hc,rfl⟩:=hm
  cases hv with
  | sc _ hw=>
   have e:u=w:=by
    rcases hc with ⟨h1,h2⟩ | ⟨h1,h2⟩
    ·rw [kaK h1,kaK h2]
    ·rw [kkt h1,kkt h2]
   rw [e]
   exact ⟨[],by simp,.refl _,id,fun _ _ _ _ _ rest=>⟨.sc w,rfl,.sc w hw⟩⟩
 | .ptr p j,v,a,m,m',hv,hm=>by
  cases v <;> simp only [mtV,jcw,reduceCtorEq] at hm
  obtain ⟨rfl,hm⟩:=hm
  obtain ⟨h1,h2,h3,h4,h5⟩:=khz hm
  cases hv with
  | ptr id j q hN hq=>exact ⟨[],by simp [h3],h1,fun hi x y a hx hy=>h5 x y a hx hy hi,fun κ2 ln2 z2 N2 f rest=>⟨.ptr p j,rfl,by obtain ⟨k1,k2,k3⟩:=f.k p _ h2; exact .ptr p j q k3 (by rw [k1]; exact hq)⟩⟩
 | .mw p,v,a,m,m',hv,hm=>by
  cases v <;> simp only [mtV,reduceCtorEq] at hm
  obtain ⟨h1,h2,h3,h4,h5⟩:=khz hm
  refine ⟨[],by simp [h3],h1,fun hi x y a hx hy=>h5 x y a hx hy hi,fun κ2 ln2 z2 N2 f rest=>⟨.mw p,rfl,?_⟩⟩
  obtain ⟨k1,k2,k3⟩:=f.k p _ h2
  cases hv with
  | mw0 _ hN hq=>exact .mw0 p k3 (by rw [k1]; exact hq)
  | mw _ q hN hq=>rw [<-k2]; exact .mw p q k3 (by rw [k1]; exact hq)
 | .mp p,v,a,m,m',hv,hm=>by
  cases v <;> simp only [mtV,reduceCtorEq] at hm
  obtain ⟨h1,h2,h3,h4,h5⟩:=khz hm
  cases hv with
  | mp id q hN hq=>exact ⟨[],by simp [h3],h1,fun hi x y a hx hy=>h5 x y a hx hy hi,fun κ2 ln2 z2 N2 f rest=>⟨.mp p,rfl,by obtain ⟨k1,k2,k3⟩:=f.k p _ h2; exact .mp p q k3 (by rw [k1]; exact hq)⟩⟩
 | .fw p,v,a,m,m',hv,hm=>by
  cases v <;> simp only [mtV,reduceCtorEq] at hm
  obtain ⟨h1,h2,h3,h4,h5⟩:=khz hm
  refine ⟨[],by simp [h3],h1,fun hi x y a hx hy=>h5 x y a hx hy hi,fun κ2 ln2 z2 N2 f rest=>⟨.fw p,rfl,?_⟩⟩
  obtain ⟨k1,k2,k3⟩:=f.k p _ h2
  cases hv with
  | fw0 _ hN hq=>exact .fw0 p k3 (by rw [k1]; exact hq)
  | fw _ q hN hq=>rw [<-k2]; exact .fw p q k3 (by rw [k1]; exact hq)
 | .fn g vs,v,a,m,m',hv,hm=>by
  cases v <;> simp only [mtV,jcw,reduceCtorEq] at hm
  obtain ⟨rfl,hm⟩:=hm
  cases hv with
  | fn _ us as hs=>
   obtain ⟨new,g1,g2,g3,g4⟩:=kks R vs hs hm
   refine ⟨new,g1,g2,g3,fun κ2 ln2 z2 N2 f rest=>?_⟩
   obtain ⟨vs',k1,k2⟩:=g4 κ2 ln2 z2 N2 f rest
   exact ⟨.fn g vs',by simp only [unV,k1],.fn g vs' as k2⟩
 | .ag vs,v,a,m,m',hv,hm=>by
  cases v <;> simp only [mtV,reduceCtorEq] at hm
  cases hv with
  | ag us as hs h1=>
   obtain ⟨new,g1,g2,g3,g4⟩:=kks R vs hs hm
   refine ⟨new,g1,g2,g3,fun κ2 ln2 z2 N2 f rest=>?_⟩
   obtain ⟨vs',k1,k2⟩:=g4 κ2 ln2 z2 N2 f rest
   exact ⟨.ag vs',by simp only [unV,k1],.ag vs' as k2 h1⟩
theorem kks (R:Rel P κ ln z c s env h n):∀ (pvs:List PV) {vs:List (TV sem)} {as:List AV} {m m':Mt sem},TVRs P κ ln z s.n vs as->mtL c s pvs vs m=some m'->
  ∃ new,m'.cs=m.cs++new/\MExt m m'/\(Inj m->Inj m')/\∀ κ2 ln2 z2 N2,Fin (ows κ ln c s) κ ln h z m' κ2 ln2 z2 N2->∀ rest,∃ vs',unL pvs (new++rest)=(vs',rest)/\TVRs P κ2 ln2 z2 N2 vs' as
 | [],[],_,m,m',.nil,hm=>by simp only [mtL,Option.some.injEq] at hm; subst hm; exact ⟨[],by simp,.refl _,id,fun _ _ _ _ _ rest=>⟨[],rfl,.nil⟩⟩
 | [],_::_,_,m,m',_,hm=>by simp [mtL] at hm
 | _::_,[],_,m,m',_,hm=>by simp [mtL] at hm
 | pv::pvs,v::vs,_,m,m',.cons _ a _ as hv hvs,hm=>by
  simp only [mtL,jaa] at hm
  obtain ⟨m1,h1,h2⟩:=hm
  obtain ⟨new1,a1,a2,a3,a4⟩:=krw R pv hv h1
  obtain ⟨new2,b1,b2,b3,b4⟩:=kks R pvs hvs h2
  refine ⟨new1++new2,by rw [b1,a1,jau],a2.trans b2,fun hi=>b3 (a3 hi),fun κ2 ln2 z2 N2 f rest=>?_⟩
  obtain ⟨v',k1,k2⟩:=a4 κ2 ln2 z2 N2 (f.back R.zin b2) (new2++rest)
  obtain ⟨vs',k3,k4⟩:=b4 κ2 ln2 z2 N2 f rest
  exact ⟨v'::vs',by simp only [unL,jau,k1,k3],.cons _ _ _ _ k2 k4⟩
end
theorem kwZ (R:Rel P κ ln z c s env h n) {pb:PB} {q p:Nat} {B:TB sem} {m m':Mt sem} (hB:thp c s q=some B) (hm:mtB c s pb B m=some m') :
  ∃ new,m'.cs=m.cs++new/\MExt m m'/\(Inj m->Inj m')/\∀ κ2 ln2 z2 N2,Fin (ows κ ln c s) κ ln h z m' κ2 ln2 z2 N2->κ2 p = κ q/\ln2 p=ln q->∀ rest,∃ B',unB pb (new++rest)=(some B',rest)/\BR P κ2 ln2 z2 h N2 p B'/\B'.isF=B.isF:=by
 have hb:=R.blk q B hB
 unfold mtB at hm
 split at hm
 ·rename_i T vs T' us
  split at hm
  ·rename_i e
   subst e
   cases hb with
   | bx _ _ q' as hq hh hv h1=>
    obtain ⟨new,g1,g2,g3,g4⟩:=kks R vs hv hm
    refine ⟨new,g1,g2,g3,fun κ2 ln2 z2 N2 f hp rest=>?_⟩
    obtain ⟨vs',k1,k2⟩:=g4 κ2 ln2 z2 N2 f rest
    exact ⟨.bx T vs',by simp only [unB,k1],.bx T vs' q' as (by rw [hp.1]; exact hq) (by rw [<-k2.len,hv.len]; exact hh) k2 h1,rfl⟩
  ·cases hm
 ·rename_i T t T' t' x
  split at hm
  ·rename_i e
   subst e
   simp only [jab] at hm
   obtain ⟨y,hy,rfl⟩:=hm
   obtain ⟨e,rfl⟩:=kai hy
   cases e
   cases hb with
   | el _ _ _ q' cs hd hq hh hv h1 hl=>
    exact ⟨[⟨t,x⟩],rfl,⟨fun _ _ h=>h,fun _ h=>h⟩,id,fun κ2 ln2 z2 N2 f hp rest=>⟨.el T t x,by simp [unB,tcast],.el T t x q' cs hd (by rw [hp.1]; exact hq) hh (hv.mono fun q B hq=>f.z q B (hz_z R.zin q B hq)) h1 (by rw [hp.2]; exact hl),rfl⟩⟩
  ·cases hm
 ·rename_i T t T' t' l
  split at hm
  ·rename_i e
   subst e
   simp only [jab] at hm
   obtain ⟨y,hy,rfl⟩:=hm
   obtain ⟨e,rfl⟩:=kai hy
   cases e
   refine ⟨[⟨.sl t,l⟩],rfl,⟨fun _ _ h=>h,fun _ h=>h⟩,id,fun κ2 ln2 z2 N2 f hp rest=>⟨.sl T t l,by simp [unB,tcast],?_,rfl⟩⟩
   cases hb with
   | sl0 _ _ _ hd hq hl hn=>exact .sl0 T t l hd (by rw [hp.1]; exact hq) hl (by rw [hp.2]; exact hn)
   | sl _ _ _ q' es hd hq hh hv h1 hn=>exact .sl T t l q' es hd (by rw [hp.1]; exact hq) hh (hv.mono fun q B hq=>f.z q B (hz_z R.zin q B hq)) h1 (by rw [hp.2]; exact hn)
  ·cases hm
 ·rename_i k v k' v' l
  simp only [jab] at hm
  obtain ⟨y,hy,rfl⟩:=hm
  obtain ⟨e,rfl⟩:=kai hy
  cases e
  cases hb with
  | mp _ _ _ q' hk hf hq hh=>exact ⟨[⟨.sl (.pr k v),l⟩],rfl,⟨fun _ _ h=>h,fun _ h=>h⟩,id,fun κ2 ln2 z2 N2 f hp rest=>⟨.mp k v l,by simp [unB,tcast],.mp k v l q' hk hf (by rw [hp.1]; exact hq) hh,rfl⟩⟩
 ·rename_i T t j U u T' t' j' U' u' l
  split at hm
  ·rename_i e
   obtain ⟨rfl,rfl,rfl,rfl⟩:=e
   simp only [jab] at hm
   obtain ⟨y,hy,rfl⟩:=hm
   obtain ⟨e,rfl⟩:=kai hy
   cases e
   refine ⟨[⟨.sl t,l⟩],rfl,⟨fun _ _ h=>h,fun _ h=>h⟩,id,fun κ2 ln2 z2 N2 f hp rest=>⟨.fm T t j U u l none,by simp [unB,tcast],?_,rfl⟩⟩
   cases hb with
   | fm0 _ _ _ _ _ _ _ hd hq hl hn=>exact .fm0 T t j U u l none hd (by rw [hp.1]; exact hq) hl (by rw [hp.2]; exact hn)
   | fm _ _ _ _ _ _ _ q' es hd hq hh hn hl hv h0 h1=>exact .fm T t j U u l none q' es hd (by rw [hp.1]; exact hq) hh (by rw [hp.2]; exact hn) hl (fun i x e rm h2 h3 h4 h5=>(hv i x e rm h2 h3 (by rw [<-hp.2]; exact h4) h5).mono (fun q B hq=>f.z q B (hz_z R.zin q B hq)) fun _ _ _ h=>h) (fun _ _ e=>by cases e) h1
  ·cases hm
 ·rename_i x
  cases hm
  cases hb with
  | si _ q' hq h0 hh=>exact ⟨[⟨.pr .s (.i .i64),x⟩],rfl,⟨fun _ _ h=>h,fun _ h=>h⟩,id,fun κ2 ln2 z2 N2 f hp rest=>⟨.si x,by simp [unB,tcast],.si x q' (by rw [hp.1]; exact hq) h0 hh,rfl⟩⟩
 ·cases hm
end
theorem kat {α:Type}:∀ {l:List (Nat×α)} {x:Nat} {v:α},alk l x=some v->(x,v)∈l
 | [],x,v,h=>by simp [alk] at h
 | (k,w)::l,x,v,h=>by
  simp only [alk] at h
  split at h
  ·rename_i e; cases h; subst e; simp
  ·exact jbb _ (kat h)
theorem kbg {α:Type}:∀ (l l':List (Nat×α)) (x:Nat),alk (l++l') x=match alk l x with | some v=>some v | none=>alk l' x
 | [],l',x=>rfl
 | (k,w)::l,l',x=>by
  simp only [jdp,alk]
  split
  ·rfl
  ·exact kbg l l' x
theorem kvB {t u:Ty} {ts:List Ty} {p:(t:Ty)×t.den} {l:List ((t:Ty)×t.den)}:mkT sem (t::u::ts) (p::l)=(tcast (A:=sem) t p.2).bind fun x=>(mkT sem (u::ts) l).map fun y=>((x,y):t.den×(tup (u::ts)).den):=rfl
section
variable {P:Program} {κ κ':Nat->Option Nat} {ln ln':Nat->Nat} {z z':AH} {c:Cx sem} {s:TS sem} {env:Env} {h h':AH} {n n' N N':Nat}
theorem krs:∀ (ts:List Ty) (l:List ((t:Ty)×t.den)) (x:(tup ts).den),mkT sem ts l=some x->unT sem ts x=l:=by
 intro ts
 induction ts with
 | nil=>
  intro l x h
  cases l with
  | nil=>rfl
  | cons p l=>exact kaa (r:=x) h
 | cons t ts ih=>
  intro l x h
  cases ts with
  | nil=>
   cases l with
   | nil=>exact kaa (r:=x) h
   | cons p l=>
    cases l with
    | nil=>
     obtain ⟨t',y⟩:=p
     obtain ⟨e,rfl⟩:=kai h
     cases e; rfl
    | cons q l=>exact kaa (r:=x) h
  | cons u ts=>
   cases l with
   | nil=>exact kaa (r:=x) h
   | cons p l=>
    rw [kvB] at h
    obtain ⟨x1,hx1,h⟩:=jaa.1 h
    obtain ⟨x2,hx2,rfl⟩:=jab.1 h
    obtain ⟨t',y⟩:=p
    obtain ⟨e,rfl⟩:=kai hx1
    cases e
    show _::unT sem (u::ts) x2=_::l
    rw [ih l x2 hx2]
theorem knv (R:Rel P κ ln z c s env h n):∀ (l:List (Nat×PV)) {m m':Mt sem},mtE c s l m=some m'->
  ∃ new,m'.cs=m.cs++new/\MExt m m'/\(Inj m->Inj m')/\∀ κ2 ln2 z2 N2,Fin (ows κ ln c s) κ ln h z m' κ2 ln2 z2 N2->∀ rest,∃ E,unE l (new++rest)=(E,rest)/\(∀ y v,alk E y=some v->TVR P κ2 ln2 z2 N2 v (lk env y))/\∀ y,(alk E y).isSome=(alk l y).isSome
 | [],m,m',hm=>by simp only [mtE,Option.some.injEq] at hm; subst hm; exact ⟨[],by simp,.refl _,id,fun _ _ _ _ _ rest=>⟨[],rfl,fun y v hy=>by simp [alk] at hy,fun _=>rfl⟩⟩
 | (x,pv)::l,m,m',hm=>by
  simp only [mtE,jaa] at hm
  obtain ⟨m1,h1,h2⟩:=hm
  obtain ⟨new1,a1,a2,a3,a4⟩:=krw R pv (R.env x) h1
  obtain ⟨new2,b1,b2,b3,b4⟩:=knv R l h2
  refine ⟨new1++new2,by rw [b1,a1,jau],a2.trans b2,fun hi=>b3 (a3 hi),fun κ2 ln2 z2 N2 f rest=>?_⟩
  obtain ⟨v',k1,k2⟩:=a4 κ2 ln2 z2 N2 (f.back R.zin b2) (new2++rest)
  obtain ⟨E,k3,k4,k5⟩:=b4 κ2 ln2 z2 N2 f rest
  refine ⟨(x,v')::E,by simp only [unE,jau,k1,k3],fun y v hy=>?_,fun y=>?_⟩
  ·simp only [alk] at hy
   split at hy
   ·rename_i e; cases hy; subst e; exact k2
   ·exact k4 y v hy
  ·simp only [alk]
   split
   ·rfl
   ·exact k5 y
theorem kyf {m m':Mt sem} {id:Nat} (h:mtI c m id=some m'):m'.cs=m.cs/\MExt m m'/\(Inj m->Inj m'):=by
 unfold mtI at h
 split at h
 ·obtain ⟨h1,h2,h3,h4,h5⟩:=khz h
  exact ⟨h3,h1,fun hi x y a hx hy=>h5 x y a hx hy hi⟩
 ·cases h; exact ⟨rfl,.refl _,fun h=>h⟩
theorem kmN (R:Rel P κ ln z c s env h n):∀ (l:List (Nat×PB)) {m m':Mt sem},mtH c s l m=some m'->
  ∃ new,m'.cs=m.cs++new/\MExt m m'/\(Inj m->Inj m')/\∀ κ2 ln2 z2 N2,Fin (ows κ ln c s) κ ln h z m' κ2 ln2 z2 N2->∀ rest,∃ H,unH l (new++rest)=(H,rest)/\(∀ id b,alk H id=some b->∃ B q B0,b=some B/\alk m'.ids id=some q/\alk s.hp q=some (some B0)/\BR P κ2 ln2 z2 h N2 id B/\B.isF=B0.isF)/\∀ y,(alk H y).isSome=(alk l y).isSome
 | [],m,m',hm=>by simp only [mtH,Option.some.injEq] at hm; subst hm; exact ⟨[],by simp,.refl _,id,fun _ _ _ _ _ rest=>⟨[],rfl,fun y v hy=>by simp [alk] at hy,fun _=>rfl⟩⟩
 | (x,pb)::l,m,m',hm=>by
  simp only [mtH] at hm
  obtain ⟨m0,h0,hm⟩:=jaa.1 hm
  obtain ⟨i1,i2,i3⟩:=kyf h0
  split at hm
  ·cases hm
  ·rename_i q hq
   split at hm
   ·rename_i B0 hB0
    simp only [jaa] at hm
    obtain ⟨m1,h1,h2⟩:=hm
    obtain ⟨new1,a1,a2,a3,a4⟩:=kwZ (p:=x) R (kab hB0) h1
    obtain ⟨new2,b1,b2,b3,b4⟩:=kmN R l h2
    refine ⟨new1++new2,by rw [b1,a1,i1,jau],i2.trans (a2.trans b2),fun hi=>b3 (a3 (i3 hi)),fun κ2 ln2 z2 N2 f rest=>?_⟩
    have hq':=b2.ids _ _ (a2.ids _ _ hq)
    obtain ⟨k0,k0',_⟩:=f.k x q hq'
    obtain ⟨B',k1,k2,k6⟩:=a4 κ2 ln2 z2 N2 (f.back R.zin b2) ⟨k0,k0'⟩ (new2++rest)
    obtain ⟨H,k3,k4,k5⟩:=b4 κ2 ln2 z2 N2 f rest
    refine ⟨(x,some B')::H,by simp only [unH,jau,k1,k3],fun y b hy=>?_,fun y=>?_⟩
    ·simp only [alk] at hy
     split at hy
     ·rename_i e; cases hy; subst e; exact ⟨B',q,B0,rfl,hq',hB0,k2,k6⟩
     ·exact k4 y b hy
    ·simp only [alk]
     split
     ·rfl
     ·exact k5 y
   ·cases hm
theorem kdy {x:Nat} {v:TV sem} (hx:alk c.e0 x=some v) {id:Nat} (hv:v.has id=true):c.has id=true:=by
 unfold Cx.has
 simp only [jav,jbc]
 exact .inl (.inr ⟨_,kat hx,hv⟩)
theorem has_g {id:Nat} {B:TB sem} (hx:alk c.g id=some B):c.has id=true:=by unfold Cx.has; simp [hx]
theorem ktZ {j:Nat} {B:TB sem} (hx:alk c.g j=some B) {id:Nat} (hv:B.has id=true):c.has id=true:=by
 unfold Cx.has
 simp only [jav,jbc]
 exact .inr ⟨_,kat hx,hv⟩
theorem Rel.g_thp (R:Rel P κ ln z c s env h n) {id:Nat} {B:TB sem} (hg:alk c.g id=some B):thp c s id=some B:=by
 unfold thp
 cases hh:alk s.hp id with
 | some b=>have:=R.g _ _ hh; rw [hg] at this; cases this
 | none=>exact hg
theorem Rel.e0_tlk (R:Rel P κ ln z c s env h n) {x:Nat} {v:TV sem} (hx:alk c.e0 x=some v):tlk c s x=v:=by
 unfold tlk
 cases hh:alk s.env x with
 | some b=>have:=R.e0 _ _ hh; rw [hx] at this; cases this
 | none=>simp [hx]
theorem ksV (R:Rel P κ ln z c s env h n) {p:Pat} {x:p.ty.den} (hc:∀ id,c.has id=true->id<N) (hp:pack c N p s=some x) (c2:Cx sem) (s2:TS sem) (hN:N<=s2.n)
  (hE:∀ y,tlk c2 s2 y=(match alk (kad (A:=sem) p N x).env y with | some v=>v | none=>(alk c.e0 y).getD .un)\/tlk c2 s2 y = .un)
  (hH:∀ id B,thp c2 s2 id=some B->alk (kad (A:=sem) p N x).hp id=some (some B)\/alk c.g id=some B)
  (he0:∀ x v,alk s2.env x=some v->alk c2.e0 x=none) (hg:∀ id b,alk s2.hp id=some b->alk c2.g id=none) (hdy:s2.dy=true):∃ κ2 ln2 z2,Rel P κ2 ln2 z2 c2 s2 env h n/\∀ id,c.has id=true->κ2 id = κ id/\ln2 id=ln id:=by
 unfold pack at hp
 obtain ⟨m1,hm1,hp⟩:=jaa.1 hp
 obtain ⟨m,hm,hp⟩:=jaa.1 hp
 obtain ⟨hchk,hp⟩:=jcw.1 hp
 simp only [jac,jam,jav,jbi,jai] at hchk
 obtain ⟨⟨hsn,hlt⟩,hid⟩:=hchk
 obtain ⟨new1,a1,a2,a3,a4⟩:=knv R _ hm1
 obtain ⟨new2,b1,b2,b3,b4⟩:=kmN R _ hm
 simp only [jba] at a1
 have hcs:m.cs=new1++new2:=by rw [b1,a1]
 have hinj:Inj m:=b3 (a3 (fun x y a hx=>by simp [alk] at hx))
 let κ2:Nat->Option Nat:=fun id=>match alk m.ids id with | some q=>κ q | none=>κ id
 let ln2:Nat->Nat:=fun id=>match alk m.ids id with | some q=>ln q | none=>ln id
 have hk2:∀ {p q:Nat},alk m.ids p=some q->κ2 p = κ q/\ln2 p=ln q:=fun {p q} hq=>by simp only [κ2,ln2,hq]; exact ⟨trivial,trivial⟩
 have hkc:∀ {id:Nat},c.has id=true->κ2 id = κ id/\ln2 id=ln id:=fun {id} hi=>by
  cases hq:alk m.ids id with
  | none=>simp only [κ2,ln2,hq]; exact ⟨trivial,trivial⟩
  | some q=>
   rcases hid _ (kat hq) with e | ⟨_,e⟩
   ·have e:id=q:=e
    subst e; exact hk2 hq
   ·have e:c.has id=false:=e
    rw [e] at hi; cases hi
 have fin:Fin (ows κ ln c s) κ ln h z m κ2 ln2 (hz (ows κ ln c s) h z m.sn) s2.n:=⟨fun p q hq=>⟨(hk2 hq).1,(hk2 hq).2,jan (hlt _ (kat hq)) hN⟩,fun q B hq=>hq⟩
 obtain ⟨E,e1,e2,e3⟩:=a4 κ2 ln2 _ s2.n (fin.back R.zin b2) new2
 obtain ⟨H,f1,f2,f3⟩:=b4 κ2 ln2 _ s2.n fin []
 have hun:unT sem p.tys x=new1++new2:=by rw [<-hcs]; exact krs _ _ _ hp
 rw [jbd] at f1
 have henv:(kad (A:=sem) p N x).env=E:=by simp only [kad,hun,e1]
 have hhp:(kad (A:=sem) p N x).hp=H:=by simp only [kad,hun,e1,f1]
 rw [henv] at hE
 rw [hhp] at hH
 have own:∀ id∈m.sn,∃ B,alk s.hp id=some (some B):=fun id hi=>by
  have:=(hsn id hi).1.1
  cases ho:ownB s id with
  | none=>rw [ho] at this; cases this
  | some B=>exact ⟨B,kcK ho⟩
 have hzo:∀ {id q:Nat} {B:TB sem},thp c s id=some B->Ow κ ln id B q->(id∉m.sn)->hz (ows κ ln c s) h z m.sn q=none:=fun {id q B} hB hk hni=>by
  unfold hz
  rw [if_neg]
  ·exact R.owZ hB hk
  ·intro hany
   obtain ⟨j,hj,hkj⟩:=jbc.1 hany
   obtain ⟨Bj,hBj⟩:=own j hj
   have:=R.owI hB (kab hBj) hk (kcP (kab hBj) (by simpa using hkj))
   subst this; exact hni hj
 have pat0:∀ {id:Nat} {B:TB sem},alk H id=some (some B)->∃ q B0,alk m.ids id=some q/\alk s.hp q=some (some B0)/\BR P κ2 ln2 (hz (ows κ ln c s) h z m.sn) h s2.n id B/\B.isF=B0.isF:=fun {id B} hB=>by
  obtain ⟨B',q,B0,g1,g2,g3,g4,g5⟩:=f2 id _ hB
  cases g1
  exact ⟨q,B0,g2,g3,g4,g5⟩
 have pat:∀ {id:Nat} {B:TB sem},alk H id=some (some B)->∃ q B0,alk m.ids id=some q/\alk s.hp q=some (some B0)/\BR P κ2 ln2 (hz (ows κ ln c s) h z m.sn) h s2.n id B:=fun {id B} hB=>by
  obtain ⟨q,B0,g2,g3,g4,_⟩:=pat0 hB
  exact ⟨q,B0,g2,g3,g4⟩
 have pni:∀ {id q:Nat},alk m.ids id=some q->q∉m.sn:=fun {id q} hq hi=>by
  have:=(hsn q hi).2 _ (kat hq)
  simp at this
 have gni:∀ {id:Nat} {B:TB sem},alk c.g id=some B->id∉m.sn:=fun {id B} hB hi=>by
  have:=(hsn id hi).1.2
  rw [has_g hB] at this; cases this
 refine ⟨κ2,ln2,hz (ows κ ln c s) h z m.sn,⟨fun y=>?_,fun id B hB=>?_,fun id B hB=>?_,fun i j B B' q hi hj ki kj=>?_,kea R.zin,fun id B q hB hk=>?_,fun id B q hB hk=>?_,R.hn,he0,hg,(fun hd=>by rw [hdy] at hd; cases hd),fun q k T es hq e he=>?_,fun id B hB hf=>?_⟩,fun id hi=>hkc hi⟩
 ·rcases hE y with hE | hE
  ·rw [hE]
   split
   ·rename_i v hv; exact e2 y v hv
   ·cases hy:alk c.e0 y with
    | none=>exact .un _
    | some v=>
     simp only [jca]
     have:=R.env y
     rw [R.e0_tlk hy] at this
     exact this.congr (fun id hi=>⟨(hkc (kdy hy hi)).1,(hkc (kdy hy hi)).2,jan (hc id (kdy hy hi)) hN⟩) (hz_z R.zin)
  ·rw [hE]; exact .un _
 ·rcases hH id B hB with hB | hB
  ·obtain ⟨q,B0,g2,g3,g4⟩:=pat hB; exact g4
  ·exact (R.blk id B (R.g_thp hB)).congr (hkc (has_g hB)) (fun i hi=>⟨(hkc (ktZ hB hi)).1,(hkc (ktZ hB hi)).2,jan (hc i (ktZ hB hi)) hN⟩) (hz_z R.zin)
 ·rcases hH id B hB with hB | hB
  ·obtain ⟨q,B0,g2,g3,g4⟩:=pat hB; exact jan (hlt _ (kat g2)) hN
  ·exact jan (hc id (has_g hB)) hN
 ·rcases hH i B hi with hi | hi
  ·obtain ⟨qi,Bi,g2,g3,g4⟩:=pat hi
   rw [(hk2 g2).1] at ki
   rcases hH j B' hj with hj | hj
   ·obtain ⟨qj,Bj,k2,k3,k4⟩:=pat hj
    rw [(hk2 k2).1] at kj
    have:=R.inj qi qj _ _ q (kab g3) (kab k3) ki kj
    subst this
    exact hinj i j qi g2 k2
   ·rw [(hkc (has_g hj)).1] at kj
    have:=R.inj qi j _ _ q (kab g3) (R.g_thp hj) ki kj
    subst this
    have:=R.g _ _ g3
    rw [hj] at this; cases this
  ·rw [(hkc (has_g hi)).1] at ki
   rcases hH j B' hj with hj | hj
   ·obtain ⟨qj,Bj,k2,k3,k4⟩:=pat hj
    rw [(hk2 k2).1] at kj
    have:=R.inj i qj _ _ q (R.g_thp hi) (kab k3) ki kj
    subst this
    have:=R.g _ _ k3
    rw [hi] at this; cases this
   ·rw [(hkc (has_g hj)).1] at kj
    exact R.inj i j _ _ q (R.g_thp hi) (R.g_thp hj) ki kj
 ·rcases hH id B hB with hB | hB
  ·obtain ⟨q',B0,g2,g3,g4⟩:=pat hB
   rw [(hk2 g2).1] at hk
   exact hzo (kab g3) (.inl hk) (pni g2)
  ·rw [(hkc (has_g hB)).1] at hk
   exact hzo (R.g_thp hB) (.inl hk) (gni hB)
 ·rcases hH id B hB with hB | hB
  ·obtain ⟨q',B0,g2,g3,g4⟩:=pat hB
   rw [(hk2 g2).1] at hk
   exact R.bnd q' B0 q (kab g3) hk
  ·rw [(hkc (has_g hB)).1] at hk
   exact R.bnd id B q (R.g_thp hB) hk
 ·unfold hz at hq
  split at hq
  ·rename_i hany
   obtain ⟨id,hid,hke⟩:=jbc.1 hany
   obtain ⟨B,hB⟩:=own id hid
   exact (R.blk id B (kab hB)).elenO (kcP (kab hB) (by simpa using hke)) hq e he
  ·exact R.zk q k T es hq e he
 ·
  have src:∀ id B,thp c2 s2 id=some B->∃ i0 B0,thp c s i0=some B0/\B.isF=B0.isF/\κ2 id = κ i0/\ln2 id=ln i0/\i0∉m.sn/\((alk m.ids id=some i0/\alk s.hp i0=some (some B0))\/(i0=id/\alk c.g id=some B)):=fun id B hB=>by
   rcases hH id B hB with hB | hB
   ·obtain ⟨q,B0,g2,g3,g4,g5⟩:=pat0 hB
    exact ⟨q,B0,kab g3,g5,(hk2 g2).1,(hk2 g2).2,pni g2,.inl ⟨g2,g3⟩⟩
   ·exact ⟨id,B,R.g_thp hB,rfl,(hkc (has_g hB)).1,(hkc (has_g hB)).2,gni hB,.inr ⟨rfl,hB⟩⟩
  obtain ⟨i0,B0,a0,a1,a2,a3,a4,a5⟩:=src id B hB
  obtain ⟨g1,g2⟩:=R.fam i0 B0 a0 (by rw [<-a1]; exact hf)
  rw [a3]
  refine ⟨g1,fun r hr=>?_⟩
  obtain ⟨k1,k2,k3,k4⟩:=g2 r hr
  refine ⟨k1,?_,fun j B' hj=>?_,fun j B' hj hf' hr'=>?_⟩
  ·exact hzo a0 (.inr ⟨by rw [<-a1]; exact hf,hr⟩) a4
  ·obtain ⟨j0,B1,b0,b1,b2,b3,b4,b5⟩:=src j B' hj
   rw [b2]; exact k3 j0 B1 b0
  ·obtain ⟨j0,B1,b0,b1,b2,b3,b4,b5⟩:=src j B' hj
   rw [b3] at hr'
   have:=k4 j0 B1 b0 (by rw [<-b1]; exact hf') hr'
   subst this
   rcases a5 with ⟨a5,a6⟩ | ⟨rfl,a6⟩
   ·rcases b5 with ⟨b5,b6⟩ | ⟨rfl,b6⟩
    ·exact hinj _ _ _ b5 a5
    ·have:=R.g _ _ a6; rw [b6] at this; cases this
   ·rcases b5 with ⟨b5,b6⟩ | ⟨rfl,b6⟩
    ·have:=R.g _ _ b6; rw [a6] at this; cases this
    ·rfl
end
section
variable {P:Program} {κ κ':Nat->Option Nat} {ln ln':Nat->Nat} {z z':AH} {c:Cx sem} {s:TS sem} {env:Env} {h h':AH} {n n' N N':Nat}
variable {w:World} {O:Nat->Prop} {μ:Mu} {p:Nat->Bool}
abbrev ahN:AH:=fun _=>none
theorem kzb {b:Nat} (h:Av O (muP p μ) b):Av O μ b:=by
 rcases h with h | ⟨id,k,h⟩
 ·exact .inl h
 ·exact .inr ⟨id,k,(kaB h).2⟩
theorem VR.freeP {a:AV} {v:Value} (hv:VR w O μ n a v) (hf:Free a):VR w O (muP p μ) n a v:=
 (hv.free hf (O':=Av O (muP p μ)) fun b hb=>kzb hb).lift fun b hb=>hb
theorem HR.part (hr:HR w O μ h n) (hz:∀ q B,z q=some B->h q=some B/\p q=false):HR w (Av O (muP p μ)) (muP (fun i=>!p i) μ) z n:=by
 refine ⟨fun b hb=>?_,fun id b k e=>hr.scope id b k (kaB e).2,fun id id' b k k' e e'=>hr.inj id id' b k k' (kaB e).2 (kaB e').2,fun id b k e hO=>?_,fun id B hB=>?_⟩
 ·rcases hb with hb | ⟨id,k,hb⟩
  ·exact hr.olt b hb
  ·exact (hr.scope id b k (kaB hb).2).2
 ·obtain ⟨e1,e2⟩:=kaB e
  rcases hO with hO | ⟨id',k',hO⟩
  ·exact hr.notO id b k e2 hO
  ·obtain ⟨e3,e4⟩:=kaB hO
   rw [hr.inj _ _ _ _ _ e2 e4] at e1
   simp [e3] at e1
 ·obtain ⟨h1,h2⟩:=hz id B hB
  exact (hr.blk id B h1).mapV (by simp only [muP]; rw [if_pos (by simp [h2])]) fun hv=>hv.splitP p
theorem VR.snapP (hr:HR w O μ h n) (hz:∀ q B,z q=some B->h q=some B/\p q=false) {a a':AV} {v:Value} (hs:Snap z a a') (hv:VR w O μ n a v):VR w O (muP p μ) n a' v:=
 ((hs.vr (hr.part hz)) (hv.splitP p)).lift fun b hb=>hb
theorem VR.ownP {a:AV} {v:Value} (hv:VR w O μ n a v) (ha:(∃ q i j,a = .own q i j)\/(∃ q i j,a = .ms q i j)\/∃ q,a = .mp q):VR w O (muP p μ) n a v:=by
 rcases ha with ⟨q,i,j,rfl⟩ | ⟨q,i,j,rfl⟩ | ⟨q,rfl⟩
 ·cases hv with | own _ _ _ _ h h1 hv=>exact .own _ _ _ _ h h1 fun b k e=>hv b k (kaB e).2
 ·cases hv with | ms _ _ _ _ h h1 hv=>exact .ms _ _ _ _ h h1 fun b k e=>hv b k (kaB e).2
 ·cases hv with | mp _ _ h h1 hv=>exact .mp _ _ h h1 fun b k e=>hv b k (kaB e).2
mutual
theorem kvz (hr:HR w O μ h n) (hz:∀ q B,z q=some B->h q=some B/\p q=false):∀ {tv:TV sem} {a:AV},TVR P κ ln z N tv a->∀ v,VR w O μ n a v->∃ a',TVR P κ ln ahN N tv a'/\(a.one=true->a'.one=true)/\VR w O (muP p μ) n a' v
 | _,_,.un a,v,hv=>by
  cases h1:a.one with
  | true=>exact ⟨.sc v,.un _,fun _=>hv.one h1,.sc v (hv.one h1)⟩
  | false=>exact ⟨.un,.un _,fun h=>(by cases h),.un v⟩
 | _,_,.ud,v,hv=>⟨.ud,.ud,fun h=>h,hv.freeP .ud⟩
 | _,_,.gs t l,v,hv=>⟨_,.gs t l,fun h=>h,by cases hv; exact .gs _⟩
 | _,_,.yl id q hi h,v,hv=>⟨_,.yl id q hi h,fun h=>h,hv.freeP (.sc _)⟩
 | _,_,.kp id hi,v,hv=>⟨.un,.kp id hi,fun h=>h,.un v⟩
 | _,_,.c t x a hd hs,v,hv=>⟨t.av x,.free hd,(fun h1=>hs.one h1),VR.snapP hr hz hs hv⟩
 | _,_,.kb b,v,hv=>⟨_,.kb b,fun h=>h,hv.freeP (.sc _)⟩
 | _,_,.sc u h1,v,hv=>⟨_,.sc u h1,fun h=>h,hv.freeP (.sc _)⟩
 | _,_,.ptr id j q hN hq,v,hv=>⟨_,.ptr id j q hN hq,fun h=>h,hv.ownP (.inl ⟨_,_,_,rfl⟩)⟩
 | _,_,.adr id i j q hN hq h0 h1,v,hv=>⟨_,.adr id i j q hN hq h0 h1,fun h=>h,hv.ownP (.inl ⟨_,_,_,rfl⟩)⟩
 | _,_,.aa id i q hN hq h0 h1,v,hv=>⟨_,.aa id i q hN hq h0 h1,fun h=>h,hv.ownP (.inl ⟨_,_,_,rfl⟩)⟩
 | _,_,.fq t x o a hd hs,v,hv=>⟨.fp ((t.enc x).drop o),.fq t x o _ hd (.free _ ((kif _).2 fun c hc=>kbl t x hd c (jda hc))),fun _=>rfl,VR.snapP hr hz hs hv⟩
 | _,_,.mw0 id hN hq,v,hv=>⟨_,.mw0 id hN hq,fun h=>h,hv.freeP (.sc _)⟩
 | _,_,.mw id q hN hq,v,hv=>⟨_,.mw id q hN hq,fun h=>h,hv.ownP (.inr (.inl ⟨_,_,_,rfl⟩))⟩
 | _,_,.ms0 id off len hN hq ho hl,v,hv=>⟨_,.ms0 id off len hN hq ho hl,fun h=>h,hv.freeP (.sc _)⟩
 | _,_,.ms id off len q hN hq h0 h1 h2,v,hv=>⟨_,.ms id off len q hN hq h0 h1 h2,fun h=>h,hv.ownP (.inr (.inl ⟨_,_,_,rfl⟩))⟩
 | _,_,.mp id q hN hq,v,hv=>⟨_,.mp id q hN hq,fun h=>h,hv.ownP (.inr (.inr ⟨_,rfl⟩))⟩
 | _,_,.fw0 id hN hq,v,hv=>⟨_,.fw0 id hN hq,fun h=>h,hv.freeP (.sc _)⟩
 | _,_,.fw id q hN hq,v,hv=>⟨_,.fw id q hN hq,fun h=>h,hv.ownP (.inr (.inl ⟨_,_,_,rfl⟩))⟩
 | _,_,.fr0 id i m hN h0 hq,v,hv=>⟨_,.fr0 id i m hN h0 hq,fun h=>h,hv.freeP (.sc _)⟩
 | _,_,.fr id i r m hN h0 hq,v,hv=>⟨_,.fr id i r m hN h0 hq,fun h=>h,hv.ownP (.inr (.inl ⟨_,_,_,rfl⟩))⟩
 | _,_,.fo id i j q hN hq h0 h1,v,hv=>⟨_,.fo id i j q hN hq h0 h1,fun h=>h,hv.ownP (.inl ⟨_,_,_,rfl⟩)⟩
 | _,_,.fa id i k o r m hN h0 hq hk hm,v,hv=>⟨_,.fa id i k o r m hN h0 hq hk hm,fun h=>h,hv.ownP (.inl ⟨_,_,_,rfl⟩)⟩
 | _,_,.fn g vs as hs,v,hv=>by
  cases hv with
  | fn _ _ vs' us hsz hc hr'=>
   obtain ⟨as',h1,h2,h3,h4⟩:=kjN hr hz hs us hr'
   refine ⟨.fn g as',.fn g vs as' h1,fun h=>h,.fn g as' vs' us (by omega) (fun j c hj=>?_) h4⟩
   obtain ⟨c0,hc0⟩:=kag h2 hj
   exact hc j c0 hc0
 | _,_,.cv m x y F a hcv,v,hv=>⟨a,.cv m x y F a hcv,fun h=>h,hv.freeP (by obtain ⟨g,as,rfl,hf,_⟩:=hcv; exact (kgX _ _).2 hf)⟩
 | _,_,.tp vs as hs,v,hv=>by
  cases hv with
  | tp _ vs' us hsz hc hr'=>
   obtain ⟨as',h1,h2,h3,h4⟩:=kjN hr hz hs us hr'
   refine ⟨.tp as',.tp vs as' h1,fun h=>h,.tp as' vs' us (by omega) (fun j c hj=>?_) h4⟩
   obtain ⟨c0,hc0⟩:=kag h2 hj
   exact hc j c0 hc0
 | _,_,.ag vs as hs hone,v,hv=>by
  cases hv with
  | ag _ vs' us hsz hc h1' hr'=>
   obtain ⟨as',h1,h2,h3,h4⟩:=kjN hr hz hs us hr'
   refine ⟨.ag as',.ag vs as' h1 (h3 hone),fun h=>h,.ag as' vs' us (by omega) (fun j c hj=>?_) (fun j c hj=>h3 hone c (jag hj)) h4⟩
   obtain ⟨c0,hc0⟩:=kag h2 hj
   exact hc j c0 hc0
theorem kjN (hr:HR w O μ h n) (hz:∀ q B,z q=some B->h q=some B/\p q=false):∀ {vs:List (TV sem)} {as:List AV},TVRs P κ ln z N vs as->∀ us:Nat->Value,(∀ (j:Nat) (c:AV),as[j]?=some c->VR w O μ n c (us j))->
  ∃ as',TVRs P κ ln ahN N vs as'/\as'.length=as.length/\((∀ a∈as,a.one=true)->∀ a∈as',a.one=true)/\∀ (j:Nat) (c:AV),as'[j]?=some c->VR w O (muP p μ) n c (us j)
 | _,_,.nil,us,_=>⟨[],.nil,rfl,fun _ a h=>(by cases h),fun j a h=>by simp at h⟩
 | _,_,.cons v a vs as hv hs,us,hus=>by
  obtain ⟨a',h1,h2,h3⟩:=kvz hr hz hv (us 0) (hus 0 a rfl)
  obtain ⟨as',g1,g2,g3,g4⟩:=kjN hr hz hs (fun j=>us (j+1)) (fun j c hj=>hus (j+1) c (by simpa using hj))
  refine ⟨a'::as',.cons _ _ _ _ h1 g1,by simp [g2],fun hone b hb=>?_,fun j b hj=>?_⟩
  ·rcases jbu.1 hb with rfl | hb
   ·exact h2 (hone a (by simp))
   ·exact g3 (fun x hx=>hone x (by simp [hx])) b hb
  ·cases j with
   | zero=>simp at hj; subst hj; exact h3
   | succ j=>exact g4 j b (by simpa using hj)
end
theorem klS (hr:HR w O μ h n) (hz:∀ q B,z q=some B->h q=some B/\p q=false) {cs cs':List AV} (hs:SnapL z cs cs'):∀ (j:Nat) (a a':AV),cs[j]?=some a->cs'[j]?=some a'->∀ v,VR w O μ n a v->VR w O (muP p μ) n a' v:=
 fun j a a' hj hj' v hv=>VR.snapP hr hz (hs.at j a a' hj hj') hv
theorem kxm (hr:HR w O μ h n) (hz:∀ q B,z q=some B->h q=some B/\p q=false) {id q:Nat} {B:TB sem} (hnf:B.isF=false) (hb:BR P κ ln z h N id B) (hk:κ id=some q) (hp:p q=true) :
  ∃ B2,(∀ h2:AH,h2 q=some B2->BR P κ ln ahN h2 N id B)/\BlkAt w O (muP p μ) n q B2:=by
 have hmu:muP p μ q = μ q:=by simp [muP,hp]
 cases hb with
 | bx T vs q' as hq hh hv h1=>
  rw [hk] at hq; cases hq
  obtain ⟨b,cc,e1,e2,e3⟩:=hr.blk q _ hh
  have hcc:∀ (j:Nat) (c:AV),as[j]?=some c->cc[0*vs.length+j]?=some ((cc[0*vs.length+j]?).getD undef)/\VR w O μ n c ((cc[0*vs.length+j]?).getD undef):=fun j c hj=>by
   obtain ⟨l1,u,l2,l3⟩:=(e3 0 as rfl).2 j c hj
   rw [l2]; exact ⟨rfl,l3⟩
  obtain ⟨as',g1,g2,g3,g4⟩:=kjN hr hz hv _ (fun j c hj=>(hcc j c hj).2)
  refine ⟨.cells vs.length T [as'],fun h2 hh2=>.bx T vs q as' hk hh2 g1 (g3 h1),?_⟩
  refine ⟨b,cc,hmu.trans e1,e2,fun i e hi=>?_⟩
  cases i with
  | zero=>
   simp at hi; subst hi
   obtain ⟨k1,k2⟩:=e3 0 as rfl
   refine ⟨by rw [g2]; exact k1,fun j a hj=>?_⟩
   obtain ⟨a0,ha0⟩:=kag g2 hj
   exact ⟨g3 h1 a (jag hj),_,(hcc j a0 ha0).1,g4 j a hj⟩
  | succ i=>simp at hi
 | el T t x q' cs hd hq hh hv h1 hl=>
  rw [hk] at hq; cases hq
  refine ⟨.cells t.wd T [t.enc x],fun h2 hh2=>.el T t x q (t.enc x) hd hk hh2 (SnapL.free (kbl t x hd)) (kaQ t x hd) hl,?_⟩
  obtain ⟨b,cc,e1,e2,e3⟩:=hr.blk q _ hh
  refine ⟨b,cc,hmu.trans e1,e2,fun i e hi=>?_⟩
  cases i with
  | zero=>
   simp at hi; subst hi
   obtain ⟨k1,k2⟩:=e3 0 cs rfl
   refine ⟨kaf t x hd,fun j a hj=>?_⟩
   obtain ⟨a0,ha0⟩:=kag hv.len hj
   obtain ⟨l1,u,l2,l3⟩:=k2 j a0 ha0
   exact ⟨kaQ t x hd a (jag hj),u,l2,klS hr hz hv j a0 a ha0 hj u l3⟩
  | succ i=>simp at hi
 | sl0 T t l hd hq hl hn=>rw [hk] at hq; cases hq
 | sl T t l q' es hd hq hh hv h1 hn=>
  rw [hk] at hq; cases hq
  have hf:∀ e∈l.map t.enc,FreeL e:=fun e he=>by obtain ⟨y,_,rfl⟩:=jay.1 he; exact kbl t y hd
  refine ⟨.cells t.wd T (l.map t.enc),fun h2 hh2=>.sl T t l q _ hd hk hh2 (SnapE.free hf) (fun e he=>by obtain ⟨y,_,rfl⟩:=jay.1 he; exact kaQ t y hd) hn,?_⟩
  obtain ⟨b,cc,e1,e2,e3⟩:=hr.blk q _ hh
  refine ⟨b,cc,hmu.trans e1,e2,fun i e hi=>?_⟩
  obtain ⟨e0,he0⟩:=kag hv.1 hi
  have hse:=hv.2 i e0 e he0 hi
  obtain ⟨k1,k2⟩:=e3 i e0 he0
  refine ⟨by rw [hse.len]; exact k1,fun j a hj=>?_⟩
  obtain ⟨a0,ha0⟩:=kag hse.len hj
  obtain ⟨l1,u,l2,l3⟩:=k2 j a0 ha0
  exact ⟨(hse.at j a0 a ha0 hj).one l1,u,l2,klS hr hz hse j a0 a ha0 hj u l3⟩
 | mp k v l q' hkk hf hq hh=>
  rw [hk] at hq; cases hq
  refine ⟨_,fun h2 hh2=>.mp k v l q hkk hf hk hh2,?_⟩
  obtain ⟨b,es,e1,e2,e3,e4⟩:=hr.blk q _ hh
  refine ⟨b,es,hmu.trans e1,e2,e3,fun i x hi=>?_⟩
  obtain ⟨e,g1,g2,g3,g4,g5⟩:=e4 i x hi
  refine ⟨e,g1,g2,g3,g4,g5.freeP ?_⟩
  obtain ⟨y,_,rfl⟩:=jay.1 (jag hi)
  exact kgR v y.2 (kcv hf)
 | si x q hq h0 hh=>
  rw [hk] at hq; cases hq
  obtain ⟨b,e1,e2⟩:=hr.blk q _ hh
  exact ⟨_,fun h2 hh2=>.si x q hk h0 hh2,⟨b,hmu.trans e1,e2⟩⟩
 | fm0=>cases hnf
 | fm=>cases hnf
theorem kto (es:List (List AV)) (Q:Nat->Nat->AV->Prop) (hex:∀ (i:Nat) (e:List AV) (j:Nat) (a:AV),es[i]?=some e->e[j]?=some a->∃ a',Q i j a') :
  ∃ es':List (List AV),es'.length=es.length/\∀ (i:Nat) (e':List AV),es'[i]?=some e'->∃ e,es[i]?=some e/\e'.length=e.length/\∀ (j:Nat) (a':AV),e'[j]?=some a'->Q i j a':=by
 classical
 let f:Nat->Nat->AV->AV:=fun i j a=>if h:∃ a',Q i j a' then Classical.choose h else a
 refine ⟨es.mapIdx fun i e=>e.mapIdx (f i),by simp,fun i e' he=>?_⟩
 rw [List.getElem?_mapIdx] at he
 obtain ⟨e,he1,rfl⟩:=jab.1 he
 refine ⟨e,he1,by simp,fun j a' ha=>?_⟩
 rw [List.getElem?_mapIdx] at ha
 obtain ⟨a,ha1,rfl⟩:=jab.1 ha
 have hx:=hex i e j a he1 ha1
 simp only [f,dif_pos hx]
 exact Classical.choose_spec hx
theorem kuz {x:Nat} (hd:(kam x).Nodup) {i j r m m':Nat} (hi:(kac x)[i]?=some (some r,m)) (hj:(kac x)[j]?=some (some r,m')):i=j:=by
 unfold kam at hd
 generalize kac x=l at hd hi hj
 induction l generalizing i j with
 | nil=>simp at hi
 | cons y l ih=>
  rw [jcn] at hd
  have mem:∀ {k m:Nat},l[k]?=some (some r,m)->r∈l.filterMap (·.1):=fun h=>jce.2 ⟨_,jag h,rfl⟩
  cases i with
  | zero=>
   cases j with
   | zero=>rfl
   | succ j=>
    simp at hi hj; subst hi
    simp only [jcv] at hd
    exact absurd (mem hj) hd.1
  | succ i=>
   cases j with
   | zero=>
    simp at hi hj; subst hj
    simp only [jcv] at hd
    exact absurd (mem hi) hd.1
   | succ j=>
    simp at hi hj
    rw [ih (by split at hd; exact hd; exact (jcv.1 hd).2) hi hj]
theorem kxu (hr:HR w O μ h n) (hz:∀ q B,z q=some B->h q=some B/\p q=false) {id:Nat} {B:TB sem} (hb:BR P κ ln z h N id B) (hp:∀ q,Ow κ ln id B q->p q=true) (hfam:B.isF=true->(kam (ln id)).Nodup/\∀ r∈kam (ln id),κ id≠some r) :
  ∃ f:Nat->ABlk,(∀ h2:AH,(∀ q,Ow κ ln id B q->h2 q=some (f q))->BR P κ ln ahN h2 N id B)/\∀ q,Ow κ ln id B q->BlkAt w O (muP p μ) n q (f q):=by
 cases hnf:B.isF with
 | false=>
  have ow:∀ q,Ow κ ln id B q->κ id=some q:=fun q hq=>by
   rcases hq with hq | ⟨hf,_⟩
   ·exact hq
   ·rw [hnf] at hf; cases hf
  cases hk:κ id with
  | none=>
   refine ⟨fun _=>.map [],fun h2 _=>?_,fun q hq=>by have:=ow q hq; rw [hk] at this; cases this⟩
   cases hb with
   | bx _ _ q as hq=>rw [hk] at hq; cases hq
   | el _ _ _ q cs hd hq=>rw [hk] at hq; cases hq
   | sl0 T t l hd hq hl hn=>exact .sl0 T t l hd hq hl hn
   | sl _ _ _ q cs hd hq=>rw [hk] at hq; cases hq
   | mp _ _ _ q _ _ hq=>rw [hk] at hq; cases hq
   | si _ q hq=>rw [hk] at hq; cases hq
   | fm0=>cases hnf
   | fm=>cases hnf
  | some q=>
   obtain ⟨B2,g1,g2⟩:=kxm hr hz hnf hb hk (hp q (.inl hk))
   exact ⟨fun _=>B2,fun h2 hh=>g1 h2 (hh q (.inl hk)),fun q' hq'=>by have:=ow q' hq'; rw [hk] at this; cases this; exact g2⟩
 | true=>
  obtain ⟨hnd,hne⟩:=hfam hnf
  cases hb with
  | bx=>cases hnf
  | el=>cases hnf
  | sl0=>cases hnf
  | sl=>cases hnf
  | mp=>cases hnf
  | si=>cases hnf
  | fm0 T t j U u l ho hd hq hl hn=>
   refine ⟨fun _=>.map [],fun h2 _=>.fm0 T t j U u l ho hd hq hl hn,fun q hq'=>?_⟩
   rcases hq' with hq' | ⟨_,hr'⟩
   ·rw [hq] at hq'; cases hq'
   ·unfold kam at hr'; rw [hn,show kac 0=[] from rfl] at hr'; cases hr'
  | fm T t j U u l ho q es hd hq hh hn hl hv h0 h1=>
   have hb:BR P κ ln z h N id (.fm T t j U u l ho):=.fm T t j U u l ho q es hd hq hh hn hl hv h0 h1
   obtain ⟨b,cc,e1,e2,e3⟩:=hr.blk q _ hh
   let Q:Nat->Nat->AV->Prop:=fun i p' a'=>a'.one=true/\(ho≠some (i:Int)->∀ x,l[i]?=some x->(p'≠j->(t.enc x)[p']?=some a')/\(p'=j->∀ e,es[i]?=some e->e[j]?=some a'))/\∃ v,cc[i*t.wd+p']?=some v/\VR w O (muP p μ) n a' v
   have hex:∀ (i:Nat) (e:List AV) (p':Nat) (a:AV),es[i]?=some e->e[p']?=some a->∃ a',Q i p' a':=fun i e p' a he ha=>by
    obtain ⟨k1,k2⟩:=e3 i e he
    obtain ⟨l1,v,l2,l3⟩:=k2 p' a ha
    by_cases hho:ho=some (i:Int)
    ·exact ⟨.sc v,l3.one l1,fun hc=>absurd hho hc,v,l2,.sc v (l3.one l1)⟩
    ·have hlt:=(jad.1 he).1
     have hx:l[i]?=some (l[i]'(by omega)):=jae _
     have hrm:(kac (ln id))[i]?=some ((kac (ln id))[i]'(by omega)):=jae _
     obtain ⟨g1,g2,ys,g3,g4,g5⟩:=hv i _ e _ hx he hrm hho
     by_cases hpj:p'=j
     ·subst hpj
      refine ⟨a,l1,fun _ x hx'=>⟨fun hc=>absurd rfl hc,fun _ e' he'=>?_⟩,v,l2,?_⟩
      ·rw [he] at he'; cases he'; exact ha
      ·generalize (kac (ln id))[i]'(by omega)=rm at g5
       obtain ⟨r,m⟩:=rm
       cases r with
       | none=>obtain ⟨g6,_⟩:=g5; rw [ha] at g6; cases g6; exact l3.freeP (.sc _)
       | some r=>obtain ⟨g6,_⟩:=g5; rw [ha] at g6; cases g6; exact l3.ownP (.inr (.inl ⟨_,_,_,rfl⟩))
     ·obtain ⟨a',ha'⟩:=kag (l:=t.enc (l[i]'(by omega))) (l':=e) g1 ha
      refine ⟨a',(g2 p' a a' hpj ha ha').one l1,fun _ x hx'=>⟨fun _=>?_,fun hc=>absurd hc hpj⟩,v,l2,VR.snapP hr hz (g2 p' a a' hpj ha ha') l3⟩
      rw [hx] at hx'; cases hx'; exact ha'
   obtain ⟨es',c1,c2⟩:=kto es Q hex
   let Y:Nat->List (List AV)->Prop:=fun r ys=>∃ (i m:Nat) (x:t.den),(kac (ln id))[i]?=some (some r,m)/\l[i]?=some x/\(t.enc x)[j]?=some (.sl ys)
   have hY:∀ r∈kam (ln id),∃ ys,Y r ys:=fun r hr'=>by
    obtain ⟨i,m,x,e,a1,a2,a3,a4,a5,ys,a6,a7⟩:=hb.row hr'
    exact ⟨ys,i,m,x,a1,a2,a6⟩
   have hYu:∀ r ys ys',Y r ys->Y r ys'->ys=ys':=fun r ys ys' ⟨i,m,x,a1,a2,a3⟩ ⟨i',m',x',b1,b2,b3⟩=>by
    have:=kuz hnd a1 b1
    subst this
    rw [a2] at b2; cases b2
    rw [a3] at b3; cases b3; rfl
   classical
   let f:Nat->ABlk:=fun r=>if r=q then .cells t.wd T es' else if hy:∃ ys,Y r ys then .cells u.wd U (Classical.choose hy) else .map []
   have fq:f q = .cells t.wd T es':=if_pos rfl
   have fr:∀ {r:Nat} {ys:List (List AV)},r∈kam (ln id)->Y r ys->f r = .cells u.wd U ys:=fun {r ys} hr' hy=>by
    have hrq:r≠q:=fun e=>hne r hr' (by rw [e]; exact hq)
    have hy':∃ ys,Y r ys:=⟨ys,hy⟩
    simp only [f,if_neg hrq,dif_pos hy']
    rw [hYu r _ _ (Classical.choose_spec hy') hy]
   have rowE:∀ {i:Nat} {x:t.den} {ys ws:List (List AV)},l[i]?=some x->(t.enc x)[j]?=some (.sl ys)->SnapE z ws ys->(∀ y∈ws,y.length=u.wd/\∀ a∈y,a.one=true)->(∀ y∈ys,FreeL y)/\∀ y∈ys,y.length=u.wd/\∀ a∈y,a.one=true:=fun {i x ys ws} hx hj hs ho=>by
    have hfr:Free (.sl ys):=kbl t x hd _ (jag hj)
    refine ⟨fun y hy=>(knR ys).1 hfr y hy,fun y hy=>?_⟩
    obtain ⟨k,hk⟩:=jcz hy
    obtain ⟨w0,hw0⟩:=kag hs.1 hk
    have hs2:=hs.2 k w0 y hw0 hk
    obtain ⟨o1,o2⟩:=ho w0 (jag hw0)
    refine ⟨by rw [hs2.len]; exact o1,fun a ha=>?_⟩
    obtain ⟨k',hk'⟩:=jcz ha
    obtain ⟨a0,ha0⟩:=kag hs2.len hk'
    exact (hs2.at k' a0 a ha0 hk').one (o2 a0 (jag ha0))
   refine ⟨f,fun h2 hh2=>?_,fun q' hq'=>?_⟩
   ·have hh2q:=hh2 q (.inl hq)
    rw [fq] at hh2q
    refine .fm T t j U u l ho q es' hd hq hh2q hn (by rw [c1,hl]) (fun i x e' rm hx he' hrm hho=>?_) h0 (fun e' he'=>?_)
    ·obtain ⟨e,he,hle,hQ⟩:=c2 i e' he'
     obtain ⟨g1,g2,ys,g3,g4,g5⟩:=hv i x e rm hx he hrm hho
     refine ⟨by rw [hle,g1],fun p' a a' hpj ha ha'=>?_,ys,g3,g4,?_⟩
     ·have:=((hQ p' a ha).2.1 hho x hx).1 hpj
      rw [this] at ha'; cases ha'
      exact .free _ (kbl t x hd _ (jag this))
     ·have hej:∀ {a:AV},e[j]?=some a->e'[j]?=some a:=fun {a} ha=>by
       obtain ⟨a',ha'⟩:=kag hle.symm ha
       have:=((hQ j a' ha').2.1 hho x hx).2 rfl e he
       rw [this] at ha; cases ha; exact ha'
      obtain ⟨r,m⟩:=rm
      cases r with
      | none=>exact ⟨hej g5.1,g5.2⟩
      | some r=>
       obtain ⟨g6,ws,g7,g8,g9⟩:=g5
       have hr':=kay hrm
       have hfr:=hh2 r (.inr ⟨rfl,hr'⟩)
       rw [fr hr' ⟨i,m,x,hrm,hx,g3⟩] at hfr
       obtain ⟨k1,k2⟩:=rowE hx g3 g8 g9
       exact ⟨hej g6,ys,hfr,SnapE.free k1,k2⟩
    ·obtain ⟨i,hi⟩:=jcz he'
     obtain ⟨e,he,hle,hQ⟩:=c2 i e' hi
     refine ⟨by rw [hle]; exact (h1 e (jag he)).1,fun a ha=>?_⟩
     obtain ⟨p',hp'⟩:=jcz ha
     exact (hQ p' a hp').1
   ·have hmu:muP p μ q' = μ q':=by simp [muP,hp q' hq']
    by_cases hqq:q'=q
    ·subst hqq
     rw [fq]
     refine ⟨b,cc,hmu.trans e1,e2,fun i e' he'=>?_⟩
     obtain ⟨e,he,hle,hQ⟩:=c2 i e' he'
     refine ⟨by rw [hle]; exact (h1 e (jag he)).1,fun p' a ha=>?_⟩
     obtain ⟨o1,_,v,o2,o3⟩:=hQ p' a ha
     exact ⟨o1,v,o2,o3⟩
    ·have hr':q'∈kam (ln id):=by
      rcases hq' with hq' | ⟨_,hq'⟩
      ·rw [hq] at hq'; cases hq'; exact absurd rfl hqq
      ·exact hq'
     obtain ⟨i,m,x,e,a1,a2,a3,a4,a5,ys,a6,a7,g6,ws,g7,g8,g9⟩:=hb.row hr'
     rw [fr hr' ⟨i,m,x,a1,a2,a6⟩]
     obtain ⟨k1,k2⟩:=rowE a2 a6 g8 g9
     obtain ⟨b,cc,e1,e2,e3⟩:=hr.blk q' _ g7
     refine ⟨b,cc,hmu.trans e1,e2,fun i y hy=>?_⟩
     obtain ⟨y0,hy0⟩:=kag g8.1 hy
     have hse:=g8.2 i y0 y hy0 hy
     obtain ⟨k3,k4⟩:=e3 i y0 hy0
     refine ⟨(k2 y (jag hy)).1,fun p' a ha=>?_⟩
     obtain ⟨a0,ha0⟩:=kag hse.len ha
     obtain ⟨l1,v,l2,l3⟩:=k4 p' a0 ha0
     exact ⟨(hse.at p' a0 a ha0 ha).one l1,v,l2,klS hr hz hse p' a0 a ha0 ha v l3⟩
end
section
variable {P:Program} {κ κ':Nat->Option Nat} {ln ln':Nat->Nat} {z z':AH} {c:Cx sem} {s:TS sem} {env:Env} {h h':AH} {n n' N N':Nat}
theorem kql (f:Nat->AV):∀ (l:List Nat) (x:Nat),lk (l.map fun k=>(k,f k)) x=if l.contains x then f x else .un
 | [],x=>rfl
 | k::l,x=>by
  simp only [jap,lk,List.contains_cons]
  by_cases hx:x=k
  ·subst hx; simp
  ·rw [if_neg hx,kql f l x]
   have:(x==k)=false:=by simpa using hx
   rw [this,jdk]
theorem klX {α:Type} {l:List (Nat×α)} {x:Nat} {v:α} (h:alk l x=some v):x∈l.map (·.1):=jay.2 ⟨_,kat h,rfl⟩
theorem knx {id q:Nat} {B:TB sem} (hB:thp c s id=some B) (h:Ow κ ln id B q):q∈ows κ ln c s id:=by
 rcases h with h | ⟨h1,h2⟩
 ·exact ows_k h
 ·exact ows_r hB h1 h2
theorem Rel.conv (R:Rel P κ ln z c s env h n) {O:Nat->Prop} {μ:Mu} {w:World} (hr:HR w O μ h n) :
  ∃ (p:Nat->Bool) (h2:AH),(∀ q B,z q=some B->h q=some B/\p q=false)/\(∀ id B,thp c s id=some B->BR P κ ln ahN h2 s.n id B)/\(∀ q,n<=q->h2 q=none)/\HR w O (muP p μ) h2 n:=by
 let ids:=s.hp.map (·.1)++c.g.map (·.1)
 let p:Nat->Bool:=fun q=>ids.any fun id=>(thp c s id).isSome&&(ows κ ln c s id).contains q
 have p1:∀ {id q:Nat} {B:TB sem},thp c s id=some B->Ow κ ln id B q->p q=true:=fun {id q B} hB hk=>by
  refine jbc.2 ⟨id,?_,by simp [hB,knx hB hk]⟩
  unfold thp at hB
  cases hh:alk s.hp id with
  | some b=>exact jaz.2 (.inl (klX hh))
  | none=>rw [hh] at hB; exact jaz.2 (.inr (klX hB))
 have p2:∀ {q:Nat},p q=true->∃ id B,thp c s id=some B/\Ow κ ln id B q:=fun {q} hq=>by
  obtain ⟨id,_,h1⟩:=jbc.1 hq
  simp only [jac] at h1
  obtain ⟨B,hB⟩:=jao.1 h1.1
  exact ⟨id,B,hB,kcP hB (by simpa using h1.2)⟩
 have hz:∀ q B,z q=some B->h q=some B/\p q=false:=fun q B hq=>by
  refine ⟨R.zin q B hq,?_⟩
  cases hp:p q with
  | false=>rfl
  | true=>
   obtain ⟨id,B',hB,hk⟩:=p2 hp
   rw [R.owZ hB hk] at hq; cases hq
 have hb:∀ id,∃ f:Nat->ABlk,∀ B,thp c s id=some B->(∀ h2:AH,(∀ q,Ow κ ln id B q->h2 q=some (f q))->BR P κ ln ahN h2 s.n id B)/\∀ q,Ow κ ln id B q->BlkAt w O (muP p μ) n q (f q):=fun id=>by
  cases hB:thp c s id with
  | none=>exact ⟨fun _=>.map [],fun B h=>by cases h⟩
  | some B=>
   obtain ⟨f,g1,g2⟩:=kxu hr hz (R.blk id B hB) (fun q hq=>p1 hB hq) (fun hf=>⟨(R.fam id B hB hf).1,fun r hr'=>((R.fam id B hB hf).2 r hr').2.2.1 id B hB⟩)
   exact ⟨f,fun B' h=>by cases h; exact ⟨g1,g2⟩⟩
 let f:Nat->Nat->ABlk:=fun id=>Classical.choose (hb id)
 have hf:∀ id B,thp c s id=some B->(∀ h2:AH,(∀ q,Ow κ ln id B q->h2 q=some (f id q))->BR P κ ln ahN h2 s.n id B)/\∀ q,Ow κ ln id B q->BlkAt w O (muP p μ) n q (f id q):=fun id=>Classical.choose_spec (hb id)
 open Classical in
 let h2:AH:=fun q=>if hq:∃ id B,thp c s id=some B/\Ow κ ln id B q then some (f (Classical.choose hq) q) else none
 have h2s:∀ id B q,thp c s id=some B->Ow κ ln id B q->h2 q=some (f id q):=fun id B q hB hk=>by
  have hq:∃ id B,thp c s id=some B/\Ow κ ln id B q:=⟨id,B,hB,hk⟩
  have e:h2 q=some (f (Classical.choose hq) q):=dif_pos hq
  obtain ⟨B',hB',hk'⟩:=Classical.choose_spec hq
  rw [e,R.owI hB' hB hk' hk]
 have h2n:∀ q B,h2 q=some B->∃ id B',thp c s id=some B'/\Ow κ ln id B' q:=fun q B hB=>by
  by_cases hq:∃ id B,thp c s id=some B/\Ow κ ln id B q
  ·exact hq
  ·have:h2 q=none:=dif_neg hq
   rw [this] at hB; cases hB
 refine ⟨p,h2,hz,fun id B hB=>(hf id B hB).1 h2 fun q hq=>h2s id B q hB hq,fun q hq=>?_,⟨hr.olt,fun id b k e=>hr.scope id b k (kaB e).2,fun id id' b k k' e e'=>hr.inj id id' b k k' (kaB e).2 (kaB e').2,fun id b k e=>hr.notO id b k (kaB e).2,fun q B hB=>?_⟩⟩
 ·cases hh:h2 q with
  | none=>rfl
  | some B=>
   obtain ⟨id,B',hB,hk⟩:=h2n q B hh
   have:=R.owN hB hk
   omega
 ·obtain ⟨id,B',hB',hk⟩:=h2n q B hB
  rw [h2s id B' q hB' hk] at hB; cases hB
  exact (hf id B' hB').2 q hk
theorem knO {O:Nat->Prop} {μ:Mu} {w:World} (hr:HR w O μ h n) (p:Nat->Bool):Evo w μ n w (muP p μ) n:=
 ⟨rfl,rfl,rfl,jah _,jah _,fun _ _ _=>rfl,fun b c T f hb=>⟨c,hb,rfl⟩,fun i _=>by unfold muP; split <;> simp,fun i b k e hn=>absurd (hr.scope i b k (kaB e).2).1 (Nat.not_lt.2 hn)⟩
theorem Rel.famD (R:Rel P κ ln z c s env h n):FamOk κ ln ahN c { s with dy:=false } n:=fun id B hB hf=>by
 obtain ⟨g1,g2⟩:=R.fam id B hB hf
 refine ⟨g1,fun r hr=>?_⟩
 obtain ⟨k1,k2,k3,k4⟩:=g2 r hr
 exact ⟨k1,rfl,k3,k4⟩
theorem Snap.gsud {z:AH} {a a':AV} (h:Snap z a a'):(a = .ud->a' = .ud)/\∀ es,a≠.gs es:=by
 cases h with
 | free _ hf=>exact ⟨fun h=>h,fun es h=>by subst h; cases hf⟩
 | _=>exact ⟨(fun h=>by cases h),(fun es h=>by cases h)⟩
theorem kyl {t:Ty} (hd:t.dat=true) (x:t.den):t.av x≠.ud:=by
 cases h:t.agg with
 | true=>rw [kgq h]; intro e; cases e
 | false=>
  intro e
  have:=kaQ t x hd (t.av x) (by rw [kgj h hd]; simp)
  rw [e] at this; cases this
theorem TVR.gok {κ κ':Nat->Option Nat} {ln ln':Nat->Nat} {z z':AH} {N N':Nat} {v:TV sem} {a a':AV} (h:TVR P κ ln z N v a) (h':TVR P κ' ln' z' N' v a') (hv:v≠.un):GOk a a':=by
 cases h' with
 | un=>exact absurd rfl hv
 | ud=>cases h; exact .inl rfl
 | gs t l=>cases h; exact .inl rfl
 | c t x _ hd hs=>
  obtain ⟨g1,g2⟩:=hs.gsud
  exact .inr ⟨g2,fun e=>kyl hd x (g1 e)⟩
 | fq t x o _ hd hs=>
  obtain ⟨g1,g2⟩:=hs.gsud
  exact .inr ⟨g2,fun e=>by cases g1 e⟩
 | cv n x y F _ hc=>
  obtain ⟨g,as,rfl,_⟩:=hc
  exact .inr ⟨fun es e=>(by cases e),fun e=>by cases e⟩
 | _=>exact .inr ⟨fun es e=>(by cases e),fun e=>by cases e⟩
theorem Rel.wk (R:Rel P κ ln z c s env h n) {D:DX} {O:Nat->Prop} {μ:Mu} {a:Act} {w:World} (hs:SR N D O μ ⟨env,h,n⟩ a w) :
  ∃ μ' env2 h2,Rel P κ ln ahN c { s with dy:=false } env2 h2 n/\SR N D O μ' ⟨env2,h2,n⟩ a w/\Evo w μ n w μ' n:=by
 obtain ⟨p,h2,hz,hbr,hn2,hr2⟩:=R.conv hs.hr
 have hf:∀ x,∃ a',TVR P κ ln ahN s.n (tlk c s x) a'/\VR w O (muP p μ) n a' (a.tmps.getD x undef):=fun x=>by
  obtain ⟨a',h1,_,h3⟩:=kvz hs.hr hz (R.env x) _ (hs.env x)
  exact ⟨a',h1,h3⟩
 let f:Nat->AV:=fun x=>Classical.choose (hf x)
 have f1:∀ x,TVR P κ ln ahN s.n (tlk c s x) (f x):=fun x=>(Classical.choose_spec (hf x)).1
 have f2:∀ x,VR w O (muP p μ) n (f x) (a.tmps.getD x undef):=fun x=>(Classical.choose_spec (hf x)).2
 let ks:=s.env.map (·.1)++c.e0.map (·.1)
 have hks:∀ x,ks.contains x=false->tlk c s x = .un:=fun x hx=>by
  have hx:x∉ks:=by simpa using hx
  unfold tlk
  cases he:alk s.env x with
  | some v=>exact absurd (jaz.2 (.inl (klX he))) hx
  | none=>
   cases he0:alk c.e0 x with
   | some v=>exact absurd (jaz.2 (.inr (klX he0))) hx
   | none=>rfl
 let gv:AV:=match tlk c s GS with | .un=>.un | _=>f GS
 have hgv:GOk (lk env GS) gv/\TVR P κ ln ahN s.n (tlk c s GS) gv/\VR w O (muP p μ) n gv (a.tmps.getD GS undef):=by
  have h1:=R.env GS
  have h2:=f1 GS
  have h3:=f2 GS
  show GOk _ (match tlk c s GS with | .un=>.un | _=>f GS)/\TVR P κ ln ahN s.n _ (match tlk c s GS with | .un=>.un | _=>f GS)/\VR w O _ n (match tlk c s GS with | .un=>.un | _=>f GS) _
  generalize tlk c s GS=v at h1 h2
  cases v <;> first | exact ⟨.un,.un _,.un _⟩ | exact ⟨h1.gok h2 (by intro e; cases e),h2,h3⟩
 have hl2:∀ x,lk ((GS,gv)::ks.map fun k=>(k,f k)) x=if x=GS then gv else lk (ks.map fun k=>(k,f k)) x:=fun x=>rfl
 refine ⟨muP p μ,(GS,gv)::ks.map fun k=>(k,f k),h2,⟨fun x=>?_,hbr,R.lt,R.inj,fun q B hq=>(by cases hq),fun _ _ _ _ _=>rfl,R.bnd,hn2,R.e0,R.g,fun _=>rfl,fun q k T es hq=>(by cases hq),R.famD⟩,⟨hr2,hs.size,hs.defers.evo (knO hs.hr p),fun x=>?_,hs.gs,hs.gi.evo (knO hs.hr p) fun _=>by show GOk _ (lk ((GS,gv)::_) GS); rw [hl2,if_pos rfl]; exact hgv.1⟩,knO hs.hr p⟩
 ·rw [hl2]
  by_cases hg:x=GS
  ·rw [if_pos hg,hg]; exact hgv.2.1
  rw [if_neg hg,kql]
  split
  ·exact f1 x
  ·rename_i hx
   rw [show tlk c { s with dy:=false } x = .un from hks x (by simpa using hx)]
   exact .un _
 ·show VR w O (muP p μ) n (lk _ x) _
  rw [hl2]
  by_cases hg:x=GS
  ·rw [if_pos hg,hg]; exact hgv.2.2
  rw [if_neg hg,kql]
  split
  ·exact f2 x
  ·exact .un _
theorem SatL.wk {D:DX} {O:Nat->Prop} {cd:Code} {cs:List Code} {Q:Exit->St->Prop} (R:Rel P κ ln z c s env h n) (hk:∀ env2 h2,Rel P κ ln ahN c { s with dy:=false } env2 h2 n->SatL P N D O (cd::cs) Q ⟨env2,h2,n⟩):SatL P N D O (cd::cs) Q ⟨env,h,n⟩:=by
 intro O1 o ro μ a w hro hs
 obtain ⟨μ',env2,h2,R2,hs2,he⟩:=R.wk hs
 exact wpIn_mono (hk env2 h2 R2 O1 o ro μ' a w (hro.evo he.d) hs2) fun _ _ _ q=>q.from he.d
structure CxWf (c:Cx sem):Prop where
 e0:∀ x v,(x,v)∈c.e0->alk c.e0 x=some v
 g:∀ x B,(x,B)∈c.g->alk c.g x=some B
theorem Rel.has_lt (R:Rel P κ ln z c s env h n) (W:CxWf c) {id:Nat} (hi:c.has id=true):id<s.n:=by
 unfold Cx.has at hi
 simp only [jav,jbc] at hi
 rcases hi with (hi | ⟨⟨x,v⟩,hx,hv⟩) | ⟨⟨x,B⟩,hx,hv⟩
 ·obtain ⟨B,hB⟩:=jao.1 hi
  exact R.lt id B (R.g_thp hB)
 ·have h1:=W.e0 x v hx
  have:=R.env x
  rw [R.e0_tlk h1] at this
  exact this.has_lt id hv
 ·have h1:=W.g x B hx
  exact (R.blk x B (R.g_thp h1)).has_lt id hv
theorem kme {α:Type} (f:Nat->α):∀ (l:List Nat) (x:Nat),alk (l.map fun k=>(k,f k)) x=if l.contains x then some (f x) else none
 | [],x=>rfl
 | k::l,x=>by
  simp only [jap,alk,List.contains_cons]
  by_cases hx:x=k
  ·subst hx; simp
  ·rw [if_neg hx,kme f l x]
   have:(x==k)=false:=by simpa using hx
   rw [this,jdk]
theorem kpi {α:Type} (f:Nat->Option α):∀ (l:List Nat) (x:Nat),alk (l.filterMap fun k=>(f k).map fun b=>(k,b)) x=if l.contains x then f x else none
 | [],x=>rfl
 | k::l,x=>by
  have ih:=kpi f l x
  rw [jcn,List.contains_cons]
  cases hk:f k with
  | none=>
   simp only [Option.map_none]
   rw [ih]
   by_cases hx:x=k
   ·subst hx; simp [hk]
   ·have:(x==k)=false:=by simpa using hx
    rw [this,jdk]
  | some b=>
   simp only [jcg,alk]
   by_cases hx:x=k
   ·subst hx; simp [hk]
   ·have:(x==k)=false:=by simpa using hx
    rw [if_neg hx,ih,this,jdk]
theorem kdv {α:Type} (f:Nat->Bool):∀ (l:List (Nat×α)) (x:Nat),alk (l.filter fun y=>f y.1) x=if f x then alk l x else none
 | [],x=>by simp [alk]
 | (k,v)::l,x=>by
  have ih:=kdv f l x
  rw [List.filter_cons]
  by_cases hk:f k=true
  ·rw [if_pos hk]
   simp only [alk]
   by_cases hx:x=k
   ·subst hx; simp [hk]
   ·rw [if_neg hx,if_neg hx,ih]
  ·rw [if_neg hk,ih]
   simp only [alk]
   by_cases hx:x=k
   ·subst hx; simp [hk]
   ·rw [if_neg hx]
end
section
variable {P:Program} {κ κ':Nat->Option Nat} {ln ln':Nat->Nat} {z z':AH} {c:Cx sem} {s:TS sem} {env:Env} {h h':AH} {n n' N N':Nat}
theorem kdB {l:La} (hk:okLa l c s=true):(∀ x∈l.keep,alk c.e0 x=none)/\(∀ id∈l.gids,∃ B,alk s.hp id=some (some B))/\
  (∀ x∈l.head.env,alk c.e0 x.1=none/\x.1∉l.keep)/\(∀ x∈l.head.hp,alk c.g x.1=none/\x.1∉l.gids/\x.1<s.n)/\(∀ x∈l.out.env,alk c.e0 x.1=none/\x.1∉l.keep)/\(∀ x∈l.out.hp,alk c.g x.1=none/\x.1∉l.gids/\x.1<l.n)/\s.n<=l.n:=by
 unfold okLa okP at hk
 simp only [jac,jam,jdj,jbi,jai] at hk
 obtain ⟨⟨⟨⟨h1,h2⟩,⟨h3,h4⟩⟩,⟨h5,h6⟩⟩,h7⟩:=hk
 refine ⟨h1,fun id hi=>?_,fun x hx=>⟨(h3 x hx).1,by simpa using (h3 x hx).2⟩,fun x hx=>⟨(h4 x hx).1.1,by simpa using (h4 x hx).1.2,(h4 x hx).2⟩,fun x hx=>⟨(h5 x hx).1,by simpa using (h5 x hx).2⟩,fun x hx=>⟨(h6 x hx).1.1,by simpa using (h6 x hx).1.2,(h6 x hx).2⟩,h7⟩
 have:=h2 id hi
 cases ho:ownB s id with
 | none=>rw [ho] at this; cases this
 | some B=>exact ⟨B,kcK ho⟩
theorem kvH {id:Nat} {B:TB sem} (h:alk s.hp id=some (some B)):ownB s id=some B:=by unfold ownB; rw [h]
theorem kim (l:La) (x:Nat):alk (inCx l c s).e0 x=if l.keep.contains x then some (tlk c s x) else alk c.e0 x:=by
 simp only [inCx,kbg,kme]
 split <;> rename_i hx <;> split at hx <;> simp_all
theorem kno (l:La) (hg:∀ id∈l.gids,∃ B,alk s.hp id=some (some B)) (x:Nat):alk (inCx l c s).g x=if l.gids.contains x then ownB s x else alk c.g x:=by
 simp only [inCx,kbg,kpi]
 split
 ·rename_i v hx
  split at hx
  ·rename_i hc; rw [if_pos hc,hx]
  ·cases hx
 ·rename_i hx
  split at hx
  ·rename_i hc
   obtain ⟨B,hB⟩:=hg x (by simpa using hc)
   rw [kvH hB] at hx; cases hx
  ·rename_i hc; rw [if_neg hc]
theorem knW (R:Rel P κ ln z c s env h n) (W:CxWf c) {l:La} (hk:okLa l c s=true):CxWf (inCx l c s):=by
 obtain ⟨k1,k2,_⟩:=kdB hk
 refine ⟨fun x v hx=>?_,fun x B hx=>?_⟩
 ·rw [kim]
  simp only [inCx,jaz,jay] at hx
  rcases hx with ⟨y,hy,he⟩ | hx
  ·cases he; rw [if_pos (by simpa using hy)]
  ·have:=W.e0 x v hx
   rw [if_neg]; ·exact this
   intro hc
   rw [k1 x (by simpa using hc)] at this; cases this
 ·rw [kno l k2]
  simp only [inCx,jaz,jce,jab] at hx
  rcases hx with ⟨y,hy,B',hB',he⟩ | hx
  ·cases he; rw [if_pos (by simpa using hy)]; exact hB'
  ·have:=W.g x B hx
   rw [if_neg]; ·exact this
   intro hc
   obtain ⟨B',hB'⟩:=k2 x (by simpa using hc)
   rw [R.g x _ hB'] at this; cases this
theorem Rel.into (R:Rel P κ ln z c s env h n) {l:La} (hk:okLa l c s=true):Rel P κ ln z (inCx l c s) ⟨s.env.filter (fun x=>!l.keep.contains x.1),s.hp.filter (fun x=>!l.gids.contains x.1),s.n,s.dy⟩ env h n:=by
 obtain ⟨k1,k2,_⟩:=kdB hk
 have htl:∀ x,tlk (inCx l c s) ⟨s.env.filter (fun x=>!l.keep.contains x.1),s.hp.filter (fun x=>!l.gids.contains x.1),s.n,s.dy⟩ x=tlk c s x:=fun x=>by
  unfold tlk
  have ef:alk (s.env.filter fun x=>!l.keep.contains x.1) x=if (!l.keep.contains x) then alk s.env x else none:=kdv (fun k=>!l.keep.contains k) s.env x
  rw [kim,ef]
  by_cases hc:l.keep.contains x=true
  ·simp only [hc,jdu,jaj,if_false,if_true,jca]; rfl
  ·simp only [hc,jds,if_true,if_false]
   rw [jch] at hc; simp only [hc,jds,if_true,jaj,if_false]
 have hth:∀ id B,thp (inCx l c s) ⟨s.env.filter (fun x=>!l.keep.contains x.1),s.hp.filter (fun x=>!l.gids.contains x.1),s.n,s.dy⟩ id=some B->thp c s id=some B:=fun id B hB=>by
  unfold thp at hB ⊢
  have ef:alk (s.hp.filter fun x=>!l.gids.contains x.1) id=if (!l.gids.contains id) then alk s.hp id else none:=kdv (fun k=>!l.gids.contains k) s.hp id
  rw [kno l k2,ef] at hB
  by_cases hc:l.gids.contains id=true
  ·simp only [hc,jdu,jaj,if_false,if_true] at hB
   rw [kcK hB]
  ·rw [jch] at hc
   simp only [hc,jds,if_true,jaj,if_false] at hB
   exact hB
 refine ⟨fun x=>by rw [htl]; exact R.env x,fun id B hB=>R.blk id B (hth id B hB),fun id B hB=>R.lt id B (hth id B hB),fun i j B B' q hi hj=>R.inj i j B B' q (hth _ _ hi) (hth _ _ hj),R.zin,fun id B q hB=>R.zout id B q (hth _ _ hB),fun id B q hB=>R.bnd id B q (hth _ _ hB),R.hn,fun x v hx=>?_,fun id b hb=>?_,R.dy,R.zk,R.fam.map (fun id B hB=>.inl ⟨B,hth id B hB,fun h=>h,rfl,rfl⟩) (fun id _ B r _ h1 h2 h3=>((R.fam id B h1 h2).2 r h3).2.1) (jah _)⟩
 ·have ef:alk (s.env.filter fun x=>!l.keep.contains x.1) x=if (!l.keep.contains x) then alk s.env x else none:=kdv (fun k=>!l.keep.contains k) s.env x
  rw [ef] at hx
  rw [kim]
  split at hx
  ·rename_i hc
   rw [if_neg (by simpa using hc)]; exact R.e0 x v hx
  ·cases hx
 ·have ef:alk (s.hp.filter fun x=>!l.gids.contains x.1) id=if (!l.gids.contains id) then alk s.hp id else none:=kdv (fun k=>!l.gids.contains k) s.hp id
  rw [ef] at hb
  rw [kno l k2]
  split at hb
  ·rename_i hc
   rw [if_neg (by simpa using hc)]; exact R.g id b hb
  ·cases hb
theorem kke:∀ (l:List (Nat×PV)) (xs:List ((t:Ty)×t.den)) (y:Nat),(alk (unE (A:=sem) l xs).1 y).isSome=(alk l y).isSome
 | [],xs,y=>rfl
 | (k,v)::l,xs,y=>by
  simp only [unE,alk]
  split
  ·rfl
  ·exact kke l _ y
theorem ksZ:∀ (l:List (Nat×PB)) (xs:List ((t:Ty)×t.den)) (y:Nat),(alk (unH (A:=sem) l xs).1 y).isSome=(alk l y).isSome
 | [],xs,y=>rfl
 | (k,v)::l,xs,y=>by
  simp only [unH,alk]
  split
  ·rfl
  ·exact ksZ l _ y
theorem krg {p:Pat} {N:Nat} {x:p.ty.den} {y:Nat} {v:TV sem} (hy:alk (kad (A:=sem) p N x).env y=some v):∃ pv,(y,pv)∈p.env:=by
 have h1:=kke p.env (unT sem p.tys x) y
 have:alk (unE (A:=sem) p.env (unT sem p.tys x)).1 y=some v:=hy
 rw [this] at h1
 obtain ⟨pv,hpv⟩:=jao.1 h1.symm
 exact ⟨pv,kat hpv⟩
theorem kwF {p:Pat} {N:Nat} {x:p.ty.den} {y:Nat} {b:Option (TB sem)} (hy:alk (kad (A:=sem) p N x).hp y=some b):∃ pb,(y,pb)∈p.hp:=by
 have h1:=ksZ p.hp (unE (A:=sem) p.env (unT sem p.tys x)).2 y
 have:alk (unH (A:=sem) p.hp (unE (A:=sem) p.env (unT sem p.tys x)).2).1 y=some b:=hy
 rw [this] at h1
 obtain ⟨pv,hpv⟩:=jao.1 h1.symm
 exact ⟨pv,kat hpv⟩
theorem kxJ {l:La} {s1:TS sem} (hk:okLa l c s=true) (hc:∀ id,(inCx l c s).has id=true->id<s.n) (R:Rel P κ ln z (inCx l c s) s1 env h n) {x:l.head.ty.den} (hp:pack (inCx l c s) s.n l.head s1=some x) :
  ∃ κ2 ln2 z2,Rel P κ2 ln2 z2 (inCx l c s) (kad l.head s.n x) env h n/\∀ id,(inCx l c s).has id=true->κ2 id = κ id/\ln2 id=ln id:=by
 obtain ⟨k1,k2,k3,k4,_⟩:=kdB hk
 refine ksV R hc hp _ _ (jah _) (fun y=>.inl (by unfold tlk; cases alk (kad (A:=sem) l.head s.n x).env y <;> rfl)) (fun id B hB=>?_) (fun y v hy=>?_) (fun id b hb=>?_) rfl
 ·unfold thp at hB
  cases hh:alk (kad (A:=sem) l.head s.n x).hp id with
  | some b=>rw [hh] at hB; exact .inl (by rw [<-hB])
  | none=>rw [hh] at hB; exact .inr hB
 ·obtain ⟨pv,hpv⟩:=krg hy
  obtain ⟨g1,g2⟩:=k3 _ hpv
  rw [kim,if_neg (by simpa using g2)]; exact g1
 ·obtain ⟨pb,hpb⟩:=kwF hb
  obtain ⟨g1,g2,g3⟩:=k4 _ hpb
  rw [kno l k2,if_neg (by simpa using g2)]; exact g1
theorem kvy {l:La} {s1:TS sem} {κ0:Nat->Option Nat} {ln0:Nat->Nat} {z0:AH} {env0:Env} {h0:AH} {n0:Nat} (R0:Rel P κ0 ln0 z0 c s env0 h0 n0) (hk:okLa l c s=true) (hc:∀ id,(inCx l c s).has id=true->id<l.n) (R:Rel P κ ln z (inCx l c s) s1 env h n) {x:l.out.ty.den} (hp:pack (inCx l c s) l.n l.out s1=some x) :
  ∃ κ2 ln2 z2,Rel P κ2 ln2 z2 c (outTS l c s x) env h n/\∀ id,(inCx l c s).has id=true->κ2 id = κ id/\ln2 id=ln id:=by
 obtain ⟨k1,k2,_,_,k5,k6,k7⟩:=kdB hk
 have henv:∀ y,alk (outTS l c s x).env y=match alk (kad (A:=sem) l.out l.n x).env y with | some v=>some v | none=>if l.keep.contains y then some (tlk c s y) else none:=fun y=>by
  show alk ((kad (A:=sem) l.out l.n x).env++l.keep.map fun x=>(x,tlk c s x)) y=_
  rw [kbg,kme]
  cases alk (kad (A:=sem) l.out l.n x).env y <;> rfl
 have hhp:∀ y,alk (outTS l c s x).hp y=match alk (kad (A:=sem) l.out l.n x).hp y with | some v=>some v | none=>if l.gids.contains y then (ownB s y).map some else none:=fun y=>by
  show alk ((kad (A:=sem) l.out l.n x).hp++l.gids.filterMap fun id=>(ownB s id).map fun b=>(id,some b)) y=_
  have:(l.gids.filterMap fun id=>(ownB s id).map fun b=>(id,some b))=l.gids.filterMap fun id=>(((ownB s id).map some).map fun b=>(id,b)):=by
   congr; funext id; cases ownB s id <;> rfl
  rw [this,kbg,kpi (fun id=>(ownB s id).map some)]
  cases alk (kad (A:=sem) l.out l.n x).hp y <;> rfl
 refine ksV R hc hp c _ (jah _) (fun y=>?_) (fun id B hB=>?_) (fun y v hy=>?_) (fun id b hb=>?_) rfl
 ·left
  unfold tlk
  rw [henv]
  cases hy:alk (kad (A:=sem) l.out l.n x).env y with
  | some v=>rfl
  | none=>
   simp only
   rw [kim]
   by_cases hkp:l.keep.contains y=true
   ·rw [if_pos hkp,if_pos hkp]; rfl
   ·rw [if_neg hkp,if_neg hkp]
 ·unfold thp at hB
  rw [hhp] at hB
  cases hy:alk (kad (A:=sem) l.out l.n x).hp id with
  | some b=>rw [hy] at hB; exact .inl (by rw [<-hB])
  | none=>
   rw [hy] at hB
   simp only at hB
   right
   rw [kno l k2]
   by_cases hkp:l.gids.contains id=true
   ·rw [if_pos hkp] at hB ⊢
    obtain ⟨B',hB'⟩:=k2 id (by simpa using hkp)
    rw [kvH hB'] at hB ⊢
    exact hB
   ·rw [if_neg hkp] at hB ⊢; exact hB
 ·rw [henv] at hy
  cases hu:alk (kad (A:=sem) l.out l.n x).env y with
  | some w=>
   obtain ⟨pv,hpv⟩:=krg hu
   exact (k5 _ hpv).1
  | none=>
   rw [hu] at hy
   simp only at hy
   split at hy
   ·rename_i hkp; exact k1 y (by simpa using hkp)
   ·cases hy
 ·rw [hhp] at hb
  cases hu:alk (kad (A:=sem) l.out l.n x).hp id with
  | some w=>
   obtain ⟨pb,hpb⟩:=kwF hu
   exact (k6 _ hpb).1
  | none=>
   rw [hu] at hb
   simp only at hb
   split at hb
   ·rename_i hkp
    obtain ⟨B',hB'⟩:=k2 id (by simpa using hkp)
    exact R0.g id _ hB'
   ·cases hb
end
def ABlk.shp:ABlk->ABlk->Prop
 | .cells k _ _,.cells k' _ _=>k=k'
 | .map a,.map b=>a=b
 | .si s p,.si s' p'=>s=s'/\p=p'
 | _,_=>False
def shp (h h1:AH):Prop:=∀ q B,h q=some B->∃ B',h1 q=some B'/\B.shp B'
section
variable {P:Program} {env:Env} {h h1:AH} {n n1:Nat} {o:Oper} {K K':K3}
theorem shp.cells (hs:shp h h1) {q k:Nat} {T:TypeId} {es:List (List AV)} (hq:h q=some (.cells k T es)):∃ T' es',h1 q=some (.cells k T' es'):=by
 obtain ⟨B',h2,h3⟩:=hs q _ hq
 cases B' with
 | cells k' T' es'=>cases h3; exact ⟨T',es',h2⟩
 | map _=>exact h3.elim
 | si _ _=>exact h3.elim
theorem shp.isCells (hs:shp h h1) {q:Nat} (hq:isCells (h q)=true):isCells (h1 q)=true:=by
 unfold Abs.isCells at hq
 split at hq
 ·rename_i k T es he
  obtain ⟨T',es',h2⟩:=hs.cells he
  rw [h2]; rfl
 ·cases hq
theorem shp.map (hs:shp h h1) {q:Nat} {l:List (Value×AV)} (hq:h q=some (.map l)):h1 q=some (.map l):=by
 obtain ⟨B',h2,h3⟩:=hs q _ hq
 cases B' with
 | cells k' T' es'=>exact h3.elim
 | map _=>cases h3; exact h2
 | si _ _=>exact h3.elim
theorem ABlk.shp_refl (B:ABlk):B.shp B:=by cases B <;> first | rfl | exact ⟨rfl,rfl⟩
theorem ksN {t:TypeId} {cs:List AV} {d:Nat} {K:AV->Prop} (hk:partK P t cs d K):∃ v,K v/\∀ K':AV->Prop,K' v->partK P t cs d K':=by
 unfold partK at hk ⊢
 split at hk
 ·exact ⟨_,hk,fun K' h=>h⟩
 ·obtain ⟨c,h1,h2⟩:=hk; exact ⟨c,h2,fun K' h=>⟨c,h1,h⟩⟩
 ·exact hk.elim
theorem kyt {T:TypeId} {x i:AV} {K:AV->Prop} (hk:idxK P T x i K):∃ v,K v/\∀ K':AV->Prop,K' v->idxK P T x i K':=by
 unfold idxK at hk
 split at hk
 ·split at hk
  ·split at hk
   ·rename_i ha
    obtain ⟨h0,h1,h2,hk⟩:=hk
    obtain ⟨v,h3,h4⟩:=ksN hk
    exact ⟨v,h3,fun K' h=>by simp only [idxK,ha]; exact ⟨h0,h1,h2,h4 K' h⟩⟩
   ·exact hk.elim
  ·obtain ⟨h0,h1,b,h2,hk⟩:=hk
   exact ⟨_,hk,fun K' h=>by simp only [idxK]; exact ⟨h0,h1,b,h2,h⟩⟩
  ·exact hk.elim
 ·exact hk.elim
theorem kzc {op:UnOp} {x:AV} {K:AV->Prop} (hk:unK op x K):∃ v,K v/\∀ K':AV->Prop,K' v->unK op x K':=by
 unfold unK at hk
 split at hk
 ·exact ⟨_,hk,fun K' h=>h⟩
 ·exact ⟨_,hk,fun K' h=>h⟩
 ·exact hk.elim
theorem kxO {S T:TypeId} {x:AV} {K:AV->Prop} (hk:convK P S T x K):∃ v,K v/\∀ K':AV->Prop,K' v->convK P S T x K':=by
 unfold convK at hk
 split at hk
 ·split at hk
  ·rename_i hi
   exact ⟨_,hk.2,fun K' h=>by simp only [convK,hi]; exact ⟨hk.1,h⟩⟩
  ·rename_i hi
   obtain ⟨v,h0,h1,hk⟩:=hk
   exact ⟨_,hk,fun K' h=>by simp only [convK,hi]; exact ⟨v,h0,h1,h⟩⟩
 ·rename_i u hu
  obtain ⟨v,h0,h1,hk⟩:=hk
  refine ⟨_,hk,fun K' h=>?_⟩
  cases u <;> first | exact absurd rfl (hu _ _) | exact absurd rfl (hu _) | exact ⟨v,h0,h1,h⟩
 ·obtain ⟨h0,h1,ns,h2,hk⟩:=hk
  exact ⟨_,hk,fun K' h=>⟨h0,h1,ns,h2,h⟩⟩
 ·exact hk.elim
theorem kxR (hc:cls o=0) (hk:aop P env h n o K):∃ v,K v h n/\∀ h1 n1 (K':K3),K' v h1 n1->aop P env h1 n1 o K':=by
 obtain ⟨dst,op,ty,pos,after,g⟩:=o
 cases op <;> simp only [cls] at hc <;> try (cases hc; done)
 case move x=>exact ⟨_,hk,fun h1 n1 K' h=>h⟩
 case assign x=>exact ⟨_,hk,fun h1 n1 K' h=>h⟩
 case pick x a b=>
  simp only [aop] at hk ⊢
  split at hk
  ·exact ⟨_,hk,fun h1 n1 K' h=>h⟩
  ·exact hk.elim
 case unOp=>
  simp only [aop] at hk ⊢
  obtain ⟨v,h1,h2⟩:=kzc hk
  exact ⟨v,h1,fun _ _ K' h=>h2 _ h⟩
 case convert=>
  simp only [aop] at hk ⊢
  obtain ⟨v,h1,h2⟩:=kxO hk
  exact ⟨v,h1,fun _ _ K' h=>h2 _ h⟩
 case makeFunc f first caps=>
  cases f <;> simp only [aop] at hk ⊢ <;> try (exact hk.elim)
  exact ⟨_,hk.2,fun _ _ K' h=>⟨hk.1,h⟩⟩
 case field T x f=>
  simp only [aop] at hk ⊢
  split at hk
  ·obtain ⟨v,h1,h2⟩:=ksN hk
   exact ⟨v,h1,fun _ _ K' h=>h2 _ h⟩
  ·exact hk.elim
 case index=>
  simp only [aop] at hk ⊢
  obtain ⟨v,h1,h2⟩:=kyt hk
  exact ⟨v,h1,fun _ _ K' h=>h2 _ h⟩
 case extract x i=>
  simp only [aop] at hk ⊢
  split at hk
  ·obtain ⟨c,h1,h2⟩:=hk; exact ⟨c,h2,fun _ _ K' h=>⟨c,h1,h⟩⟩
  ·exact hk.elim
 case build T parts=>
  simp only [aop] at hk ⊢
  split at hk
  ·split at hk
   ·exact ⟨_,hk,fun _ _ K' h=>h⟩
   ·exact hk.elim
  ·exact hk.elim
 case call l=>
  obtain ⟨callee,args,ts⟩:=l
  cases callee with
  | builtin b=>
   simp only [aop] at hk ⊢
   unfold kah at hk
   split at hk
   ·cases hc
   ·cases hc
   ·cases hc
   ·rename_i x y _ ha
    split at hk
    ·rename_i h1 h2
     refine ⟨_,hk.2,fun _ _ K' h=>?_⟩
     simp only [kah,ha,h1,h2]; exact ⟨hk.1,h⟩
    ·exact hk.elim
   ·rename_i x y _ ha
    split at hk
    ·rename_i h1 h2
     refine ⟨_,hk.2,fun _ _ K' h=>?_⟩
     simp only [kah,ha,h1,h2]; exact ⟨hk.1,h⟩
    ·exact hk.elim
   ·rename_i x y q _ ha
    split at hk
    ·rename_i h1 h2 h3
     refine ⟨_,hk.2,fun _ _ K' h=>?_⟩
     simp only [kah,ha,h1,h2,h3]; exact ⟨hk.1,h⟩
    ·exact hk.elim
   ·rename_i x y q _ ha
    split at hk
    ·rename_i h1 h2 h3
     refine ⟨_,hk.2,fun _ _ K' h=>?_⟩
     simp only [kah,ha,h1,h2,h3]; exact ⟨hk.1,h⟩
    ·exact hk.elim
   ·exact hk.elim
  | value _=>simp at hc
  | invoke _ _=>simp at hc
theorem khJ {n:Nat} {lo hi:Option AV} {K K':Nat->Nat->Prop} (hk:kbC n lo hi K) (hK:∀ l u,K l u->K' l u):kbC n lo hi K':=by
 unfold kbC at hk ⊢
 split at hk
 ·exact ⟨hk.1,hk.2.1,hk.2.2.1,hK _ _ hk.2.2.2⟩
 ·exact hk.elim
theorem kry (hc:cls o=1) (hs:shp h h1) (hK:∀ v,K v h n->K' v h1 n1) (hk:aop P env h n o K):aop P env h1 n1 o K':=by
 obtain ⟨dst,op,ty,pos,after,g⟩:=o
 cases op <;> simp only [cls] at hc <;> try (cases hc; done)
 case nilCheck x=>
  simp only [aop] at hk ⊢
  refine ⟨?_,hK _ hk.2⟩
  have:=hk.1
  unfold liveA at this ⊢
  split at this
  ·rfl
  ·rfl
  ·exact hs.isCells this
  ·cases this
 case fieldAddr T x f=>
  simp only [aop] at hk ⊢
  split at hk
  ·split at hk
   ·exact hK _ hk
   ·exact ⟨hs.isCells hk.1,hK _ hk.2⟩
   ·exact hk.elim
  ·exact hk.elim
 case indexAddr T x i=>
  simp only [aop] at hk ⊢
  unfold kct at hk ⊢
  split at hk
  ·split at hk
   ·split at hk
    ·obtain ⟨h0,c,q1,q2,q3,q4⟩:=hk; exact ⟨h0,c,q1,q2,q3,hK _ q4⟩
    ·exact hk.elim
   ·split at hk
    ·rename_i he hh
     obtain ⟨T',es',h2⟩:=hs.cells hh
     simp only [he,h2]
     exact ⟨hk.1,hk.2.1,hk.2.2.1,hk.2.2.2.1,hK _ hk.2.2.2.2⟩
    ·exact hk.elim
   ·split at hk
    ·rename_i he hh
     obtain ⟨T',es',h2⟩:=hs.cells hh
     simp only [he,h2]
     exact ⟨hk.1,hk.2.1,hk.2.2.1,hK _ hk.2.2.2⟩
    ·exact hk.elim
   ·split at hk
    ·exact ⟨hk.1,hk.2.1,hk.2.2.1,hK _ hk.2.2.2⟩
    ·exact hk.elim
   ·exact hk.elim
  ·exact hk.elim
 case slice T x lo hi mx=>
  cases mx with
  | some _=>simp only [aop] at hk
  | none=>
   simp only [aop] at hk ⊢
   unfold keC at hk ⊢
   split at hk
   ·exact ⟨hk.1,khJ hk.2 fun _ _ h=>hK _ h⟩
   ·obtain ⟨⟨e,he,hm⟩,hk⟩:=hk
    refine ⟨⟨e,he,?_⟩,khJ hk fun _ _ h=>hK _ h⟩
    split at hm
    ·rename_i hh
     obtain ⟨T',es',h2⟩:=hs.cells hh
     rw [h2]; exact hm
    ·exact hm.elim
   ·exact ⟨hk.1,khJ hk.2 fun _ _ h=>hK _ h⟩
   ·exact ⟨hk.1,khJ hk.2 fun _ _ h=>hK _ h⟩
   ·exact hk.elim
 case call l=>
  obtain ⟨callee,args,ts⟩:=l
  cases callee with
  | builtin b=>
   simp only [aop] at hk ⊢
   unfold kah at hk
   split at hk
   ·rename_i x T ha ht
    simp only [kah,ha,ht]
    unfold lenK at hk ⊢
    split at hk
    ·exact ⟨hk.1,fun h=>hK _ (hk.2 h)⟩
    ·exact ⟨hk.1,hs.isCells hk.2.1,fun h=>hK _ (hk.2.2 h)⟩
    ·exact ⟨hk.1,hK _ hk.2⟩
    ·exact ⟨hk.1,hK _ hk.2⟩
    ·exact ⟨hk.1,hK _ hk.2⟩
    ·split at hk
     ·rename_i hh hu
      simp only [hs.map hh,hu]; exact hK _ hk
     ·exact hk.elim
    ·exact hk.elim
   ·cases hc
   ·cases hc
   ·cases hc
   ·cases hc
   ·cases hc
   ·cases hc
   ·exact hk.elim
  | value _=>simp at hc
  | invoke _ _=>simp at hc
theorem HR.sub {w:World} {O:Nat->Prop} {μ:Mu} (hh:∀ q B,h q=some B->h1 q=some B) (hr:HR w O μ h1 n):HR w O μ h n:=
 ⟨hr.olt,hr.scope,hr.inj,hr.notO,fun id B hB=>hr.blk id B (hh id B hB)⟩
theorem kwU (hh:∀ q B,h q=some B->h1 q=some B) {a:AV} {cs:List AV} (hd:deref h a=some cs):deref h1 a=some cs:=by
 unfold deref at hd ⊢
 split at hd
 ·exact hd
 ·split at hd
  ·rename_i he
   simp only [hh _ _ he]; exact hd
  ·cases hd
 ·cases hd
theorem kwn {op:BinOp} {k k':IntKind} {x y:Int} {K K':AV->Prop} (hK:∀ v,K v->K' v) (hk:abinI op k x k' y K):abinI op k x k' y K':=by
 cases op <;> simp only [abinI] at hk ⊢ <;> first | exact ⟨hk.1,hK _ hk.2⟩ | exact ⟨hk.1,hk.2.1,hK _ hk.2.2⟩
theorem kwm {op:BinOp} {x y:ByteArray} {K K':AV->Prop} (hK:∀ v,K v->K' v) (hk:abinS op x y K):abinS op x y K':=by
 cases op <;> simp only [abinS] at hk ⊢ <;> first | exact ⟨hk.1,hK _ hk.2⟩ | exact hK _ hk
theorem ktq (hc:cls o=2) (hh:∀ q B,h q=some B->h1 q=some B) (hK:∀ v,K v h n->K' v h1 n1) (hk:aop P env h n o K):aop P env h1 n1 o K':=by
 obtain ⟨dst,op,ty,pos,after,g⟩:=o
 cases op <;> simp only [cls] at hc <;> try (cases hc; done)
 case load T x=>
  simp only [aop] at hk ⊢
  split at hk
  ·rename_i cs hd
   simp only [kwU hh hd]
   unfold loadK at hk ⊢
   split at hk
   ·exact ⟨hk.1,hK _ hk.2⟩
   ·obtain ⟨c,h2,h3⟩:=hk; exact ⟨c,h2,hK _ h3⟩
   ·exact hk.elim
  ·exact hk.elim
 case binOp op T x y T2=>
  simp only [aop] at hk ⊢
  unfold abin at hk ⊢
  split at hk
  ·exact kwn (fun v h=>hK v h) hk
  ·exact kwm (fun v h=>hK v h) hk
  ·refine ⟨hk.1,?_⟩
   have:=hk.2
   split at this
   ·exact hK _ this
   ·exact hK _ this
   ·exact this.elim
  ·obtain ⟨b,h2,h3⟩:=hk
   exact ⟨b,fun w O μ n u v X Y hr hu hv=>h2 w O μ n u v X Y (hr.sub hh) hu hv,fun b' hb'=>hK _ (h3 b' hb')⟩
 case lookup T m k ok=>
  simp only [aop] at hk ⊢
  unfold kgV at hk ⊢
  split at hk
  ·split at hk
   ·rename_i he
    simp only [hh _ _ he]
    refine ⟨hk.1,hk.2.1,?_⟩
    have:=hk.2.2
    split at this
    ·exact hK _ this
    ·exact hK _ this
    ·exact this.elim
   ·exact hk.elim
  ·exact hk.elim
 case call l=>
  obtain ⟨callee,args,ts⟩:=l
  cases callee with
  | builtin b=>cases b <;> simp at hc
  | value _=>simp at hc
  | invoke _ _=>simp at hc
end
def avId:AV->Option Nat
 | .own id _ _ | .ms id _ _ | .mp id=>some id
 | _=>none
section
variable {P:Program} {env:Env} {h h' h1:AH} {n n' n1:Nat} {o:Oper} {K K':K3}
theorem ktt {T:TypeId} {p x v:AV} (hk:kbz P h n T p x (fun a b c=>a=v/\b=h'/\c=n')):(∀ q,avId p≠some q->h' q=h q)/\shp h h':=by
 unfold kbz at hk
 split at hk
 ·rename_i id i j
  split at hk
  ·rename_i k T' es xs hh hx
   split at hk
   ·rename_i e he
    obtain ⟨_,_,_,_,rfl,_⟩:=hk
    refine ⟨fun q hq=>?_,fun q B hq=>?_⟩
    ·unfold updH; rw [if_neg]; rintro rfl; exact hq rfl
    ·unfold updH
     by_cases e:q=id
     ·subst e
      rw [if_pos rfl]
      rw [hh] at hq; cases hq
      exact ⟨_,rfl,rfl⟩
     ·rw [if_neg e]; exact ⟨B,hq,B.shp_refl⟩
   ·exact hk.elim
  ·exact hk.elim
 ·exact hk.elim
theorem kxn {wc:List Nat} {j:Nat} {v:AV} (hw:isW wc j o=true) (hcl:kiH o=false) (hk:aop P env h n o (fun a b c=>a=v/\b=h'/\c=n')) :
  (∀ q,q≠n->(∀ x,tgtOp o=some x->avId (ev env x)≠some q)->h' q=h q)/\(krc o=true->shp h h'):=by
 obtain ⟨dst,op,ty,pos,after,g⟩:=o
 have upd:∀ {B:ABlk} (q:Nat),q≠n->updH h n B q=h q:=fun q hq=>by unfold updH; rw [if_neg hq]
 cases op <;> simp only [isW] at hw <;> try (cases hw; done)
 case alloc T=>
  simp only [aop] at hk
  split at hk
  ·obtain ⟨_,rfl,_⟩:=hk
   exact ⟨fun q hq _=>upd q hq,fun hc=>by cases hc⟩
  ·exact hk.elim
 case box T x=>
  simp only [aop] at hk
  split at hk
  ·obtain ⟨_,rfl,_⟩:=hk
   exact ⟨fun q hq _=>upd q hq,fun hc=>by cases hc⟩
  ·exact hk.elim
 case range T x=>
  simp only [aop,knE] at hk
  split at hk
  ·obtain ⟨_,_,rfl,_⟩:=hk
   exact ⟨fun q hq _=>upd q hq,fun hc=>by cases hc⟩
  ·exact hk.elim
 case next x b=>
  cases b with
  | false=>simp only [aop] at hk
  | true=>
   simp only [aop,nextK] at hk
   split at hk
   ·rename_i id hx
    split at hk
    ·split at hk
     ·obtain ⟨_,rfl,_⟩:=hk
      refine ⟨fun q _ hq=>?_,fun hc=>by cases hc⟩
      have:=hq x rfl
      rw [hx] at this
      unfold updH; rw [if_neg]; rintro rfl; exact this rfl
     ·obtain ⟨_,rfl,_⟩:=hk
      exact ⟨fun q _ _=>rfl,fun hc=>by cases hc⟩
    ·exact hk.elim
   ·exact hk.elim
 case store T p x=>
  simp only [aop] at hk
  obtain ⟨h1,h2⟩:=ktt hk
  exact ⟨fun q _ hx=>h1 q (hx p rfl),fun _=>h2⟩
 case makeSlice T x y=>
  simp only [aop] at hk
  split at hk
  ·split at hk
   ·obtain ⟨_,_,_,_,_,_,rfl,_⟩:=hk
    exact ⟨fun q hq _=>upd q hq,fun hc=>by cases hc⟩
   ·exact hk.elim
  ·exact hk.elim
 case makeMap T x=>
  cases x with
  | none=>
   simp only [aop] at hk
   obtain ⟨_,rfl,_⟩:=hk
   exact ⟨fun q hq _=>upd q hq,fun hc=>by cases hc⟩
  | some _=>simp only [aop] at hk
 case mapUpdate T m k x=>
  simp only [aop] at hk
  unfold kjv at hk
  split at hk
  ·rename_i id _ _ _ hm _ _
   split at hk
   ·obtain ⟨_,_,_,_,rfl,_⟩:=hk
    refine ⟨fun q _ hx=>?_,fun hc=>by cases hc⟩
    unfold updH; rw [if_neg]
    rintro rfl
    exact hx m rfl (by rw [hm]; rfl)
   ·exact hk.elim
  ·exact hk.elim
 case lookup T m k ok=>
  simp only [aop] at hk
  unfold kgV at hk
  split at hk
  ·split at hk
   ·obtain ⟨_,_,hk⟩:=hk
    split at hk
    ·obtain ⟨_,rfl,_⟩:=hk; exact ⟨fun q _ _=>rfl,fun hc=>by cases hc⟩
    ·obtain ⟨_,rfl,_⟩:=hk; exact ⟨fun q _ _=>rfl,fun hc=>by cases hc⟩
    ·exact hk.elim
   ·exact hk.elim
  ·exact hk.elim
 case mapEntry T m k=>
  simp only [aop] at hk
  unfold klf at hk
  split at hk
  ·rename_i id _ _ _ hm _ _
   split at hk
   ·obtain ⟨_,_,hk⟩:=hk
    split at hk
    ·obtain ⟨_,rfl,_⟩:=hk
     refine ⟨fun q _ hx=>?_,fun hc=>by cases hc⟩
     unfold updH; rw [if_neg]
     rintro rfl
     exact hx m rfl (by rw [hm]; rfl)
    ·obtain ⟨_,_,rfl,_⟩:=hk
     refine ⟨fun q _ hx=>?_,fun hc=>by cases hc⟩
     unfold updH; rw [if_neg]
     rintro rfl
     exact hx m rfl (by rw [hm]; rfl)
    ·exact hk.elim
   ·exact hk.elim
  ·exact hk.elim
 case entryStore T m st x=>
  simp only [aop] at hk
  unfold knq at hk
  split at hk
  ·rename_i id _ _ hm _
   split at hk
   ·obtain ⟨_,_,_,_,_,rfl,_⟩:=hk
    refine ⟨fun q _ hx=>?_,fun hc=>by cases hc⟩
    unfold updH; rw [if_neg]
    rintro rfl
    exact hx m rfl (by rw [hm]; rfl)
   ·exact hk.elim
  ·exact hk.elim
 case call l=>
  obtain ⟨callee,args,ts⟩:=l
  cases callee with
  | builtin b=>
   simp only [aop] at hk
   unfold kah at hk
   split at hk
   ·simp at hw
   ·rename_i s x T T2 ha ht
    refine ⟨fun q hq hx=>?_,fun hc=>by cases hc⟩
    replace hx:=hx s (by simp only [tgtOp,ha])
    unfold kby at hk
    obtain ⟨_,hk⟩:=hk
    split at hk
    ·exact hk.elim
    ·split at hk
     ·exact hk.elim
     ·obtain ⟨_,_,hk⟩:=hk
      split at hk
      ·exact hk.elim
      ·rename_i xs _
       split at hk
       ·by_cases e:xs=[]
        ·obtain ⟨_,rfl,_⟩:=hk.2.1 e; rfl
        ·obtain ⟨_,rfl,_⟩:=hk.2.2 e; exact upd q hq
       ·by_cases e:xs=[]
        ·obtain ⟨_,rfl,_⟩:=hk.2.1 e; rfl
        ·obtain ⟨_,rfl,_⟩:=hk.2.2 e; exact upd q hq
       ·rename_i id len he
        split at hk
        ·obtain ⟨_,_,_,_,_,rfl,_⟩:=hk
         unfold updH delH
         rw [if_neg hq,if_neg]
         rintro rfl
         exact hx (by rw [he]; rfl)
        ·exact hk.elim
       ·exact hk.elim
   ·rename_i s x T T2 ha ht
    refine ⟨fun q hq hx=>?_,fun hc=>by cases hc⟩
    replace hx:=hx s (by simp only [tgtOp,ha])
    unfold copyK at hk
    split at hk
    ·exact hk.elim
    ·split at hk
     ·exact hk.elim
     ·obtain ⟨_,hk⟩:=hk
      split at hk
      ·exact hk.elim
      ·split at hk
       ·obtain ⟨_,rfl,_⟩:=hk; rfl
       ·rename_i id off len he
        split at hk
        ·obtain ⟨_,_,_,rfl,_⟩:=hk
         unfold updH
         rw [if_neg]
         rintro rfl
         exact hx (by rw [he]; rfl)
        ·exact hk.elim
       ·exact hk.elim
   ·simp at hw
   ·simp at hw
   ·simp at hw
   ·simp at hw
   ·exact hk.elim
  | value _=>cases hcl
  | invoke _ _=>simp at hw
 case buildSlice T len parts=>
  simp only [aop] at hk
  split at hk
  ·split at hk
   ·obtain ⟨_,_,hk⟩:=hk
    split at hk
    ·rcases hk with ⟨_,rfl,_⟩ | ⟨_,rfl,_⟩ | ⟨_,_,rfl,_⟩
     ·exact ⟨fun q hq _=>upd q hq,fun hc=>by cases hc⟩
     ·exact ⟨fun q hq _=>rfl,fun hc=>by cases hc⟩
     ·exact ⟨fun q hq _=>rfl,fun hc=>by cases hc⟩
    ·exact hk.elim
   ·exact hk.elim
  ·exact hk.elim
 all_goals (simp only [aop] at hk)
end
section
variable {P:Program} {κ κ0:Nat->Option Nat} {ln:Nat->Nat} {z:AH} {c:Cx sem} {s:TS sem} {env:Env} {h h' hs:AH} {n n':Nat}
def rsH (κ:Nat->Option Nat) (h:AH) (b:List Nat):AH:=fun q=>if b.any (fun id=>κ id==some q) then h q else none
theorem klO {b:List Nat} {q:Nat} {B:ABlk} (hq:rsH κ h b q=some B):(∃ id∈b,κ id=some q)/\h q=some B:=by
 unfold rsH at hq
 split at hq
 ·rename_i ha
  obtain ⟨id,hi,he⟩:=jbc.1 ha
  exact ⟨⟨id,hi,by simpa using he⟩,hq⟩
 ·cases hq
theorem kyM {b:List Nat} {id q:Nat} (hi:id∈b) (hk:κ id=some q):rsH κ h b q=h q:=by
 unfold rsH
 rw [if_pos (jbc.2 ⟨id,hi,by simp [hk]⟩)]
theorem Rel.rst (R:Rel P κ ln z c s env h n) {b:List Nat} (hd:s.dy=false) (hg:c.g.all (fun x=>b.contains x.1)=true) (hnf:b.all (fun id=>!(thp c s id).any TB.isF)=true):Rel P κ ln z c (rst s b) env (rsH κ h b) n:=by
 have hz:=R.dy hd
 have ef:∀ id,alk (s.hp.filter fun x=>b.contains x.1) id=if b.contains id then alk s.hp id else none:=fun id=>kdv (fun k=>b.contains k) s.hp id
 have hgm:∀ id B,alk c.g id=some B->id∈b:=fun id B hB=>by
  have:=jam.1 hg (id,B) (kat hB)
  simpa using this
 have sub:∀ id B,thp c (Abs.rst s b) id=some B->thp c s id=some B/\id∈b:=fun id B hB=>by
  unfold thp at hB ⊢
  simp only [Abs.rst,ef] at hB
  by_cases hc:b.contains id=true
  ·rw [if_pos hc] at hB
   exact ⟨hB,by simpa using hc⟩
  ·rw [if_neg hc] at hB
   simp only at hB
   exact absurd (jbo.2 (hgm id B hB)) hc
 refine ⟨fun x=>R.env x,fun id B hB=>?_,fun id B hB=>R.lt id B (sub id B hB).1,fun i j B B' q hi hj=>R.inj i j B B' q (sub _ _ hi).1 (sub _ _ hj).1,fun q B hq=>?_,fun id B q hB hk=>R.zout id B q (sub _ _ hB).1 hk,fun id B q hB hk=>R.bnd id B q (sub _ _ hB).1 hk,fun q hq=>?_,R.e0,fun id B hB=>?_,fun _=>hz,R.zk,R.fam.map (fun id B hB=>.inl ⟨B,(sub id B hB).1,fun h=>h,rfl,rfl⟩) (fun id _ B r _ h1 h2 h3=>((R.fam id B h1 h2).2 r h3).2.1) (jah _)⟩
 ·obtain ⟨h1,h2⟩:=sub id B hB
  have hf:B.isF=false:=by
   have:=jam.1 hnf id h2
   rw [h1] at this; simpa using this
  refine (R.blk id B h1).mono (fun _ _=>rfl) (fun _ _=>rfl) (fun _ _ h=>h) (jah _) (R.lt id B h1) (fun q B' hq hB'=>?_)
  rcases hq with hq | ⟨hf',_⟩
  ·rw [kyM h2 hq]; exact hB'
  ·rw [hf] at hf'; cases hf'
 ·rw [hz] at hq; cases hq
 ·unfold rsH; split
  ·exact R.hn q hq
  ·rfl
 ·simp only [Abs.rst,ef] at hB
  split at hB
  ·exact R.g id B hB
  ·cases hB
theorem ABlk.shp_trans {A B C:ABlk} (h1:A.shp B) (h2:B.shp C):A.shp C:=by
 cases A <;> cases B <;> cases C <;> simp only [ABlk.shp] at * <;> first | exact h1.trans h2 | exact ⟨h1.1.trans h2.1,h1.2.trans h2.2⟩ | exact False.elim h1 | exact False.elim h2
end
end Go.Abs
