/- The functions and the law, part 8. -/
import Derived.Test.YtmcfapchpedbgaaS7
set_option linter.constructorNameAsVariable false
set_option linter.unusedVariables false
set_option linter.unusedSimpArgs false
set_option linter.unusedSectionVars false
namespace Go.Abs
open Go
structure Common (c:Int) (l m:List Fed) (a:Nat):Prop where
 al:a≤l.length
 am:a≤m.length
 eq:∀ i,i<a→fd l i=fd m i
 hl:∀ i,a≤i→i<l.length→c<tF l i
 hm:∀ i,a≤i→i<m.length→c<tF m i
theorem Common.symm {c:Int} {l m:List Fed} {a:Nat} (h:Common c l m a):Common c m l a:=⟨h.am,h.al,fun i hi=>(h.eq i hi).symm,h.hm,h.hl⟩
def Mono (l:List Fed):Prop:=∀ i j,i≤j→j<l.length→(fd l i).1≤(fd l j).1
theorem knR {c D:Int} {l m:List Fed} {a:Nat} (h:Common c l m a) {s e e':Nat} (C:Clus D l s e) (C':Clus D m s e') (he:tF l (e-1)+D≤c) (hD:0≤D):e=e'∧e≤a:=by
 have hC:=C.le; have hC2:=C.lt; have hC':=C'.le; have hC2':=C'.lt
 have hea:e≤a:=by
  by_cases h1:e≤a
  ·exact h1
  ·have:=h.hl (e-1) (by omega) (by omega); omega
 have ham:=h.am
 refine ⟨?_,hea⟩
 by_cases h1:e'<e
 ·have h2:=C.mid e' (by omega) h1
  rcases C'.hi with h3 | h3
  ·omega
  ·rw [←h.eq e' (by omega),←h.eq (e'-1) (by omega)] at h3; omega
 ·by_cases h2:e<e'
  ·have h3:=C'.mid e (by omega) h2
   by_cases h4:e<a
   ·rw [←h.eq e h4,←h.eq (e-1) (by omega)] at h3
    rcases C.hi with h5 | h5
    ·have:=h.al; omega
    ·omega
   ·have h5:=h.hm e (by omega) (by omega)
    rw [←h.eq (e-1) (by omega)] at h3
    unfold tF at *; omega
  ·omega
theorem ksl {c:Int} {l m:List Fed} {a:Nat} (h:Common c l m a) {s e:Nat} (hse:s<e) (he:e≤a):seg l s e=seg m s e:=by
 have h1:=h.al; have h2:=h.am
 refine List.ext_getElem (by rw [kcA (by omega),kcA (by omega)]) fun i q1 q2=>?_
 have hi:i<e-s:=by rw [kcA (by omega)] at q1; exact q1
 rw [←kdD q1,←kdD q2,kdI hi,kdI hi,h.eq _ (by omega)]
section
variable {b:Belt} (B:BeltOk b) {tick:Int}
include B
def pT (tick:Int) (x:Sw):Bool:=decide (x.1≤tick)
theorem klk {l:List Fed} (hmo:Mono l) {s e:Nat} (C:Clus (2*b.2.2.1+1) l s e) (hn:¬ tF l (e-1)+(2*b.2.2.1+1)≤tick-b.2.1):(hS b l (s,e)).filter (pT tick)=[]:=by
 have hC:=C.le; have hC2:=C.lt
 have hss:=hmo s (e-1) (by omega) (by omega)
 have s0:=B.s0
 unfold hS swC
 dsimp only
 split
 ·rename_i h0
  have hsp:(fd l (e-1)).1-(fd l s).1+3*b.2.2.1+1≤(gtF b (Gc b (seg l s e))).1-b.2.1:=by
   have hlen:=kcA (s:=s) hC
   have f0:fd (seg l s e) 0=fd l s:=by rw [kdI (by omega)]; rfl
   have f1:fd (seg l s e) ((seg l s e).length-1)=fd l (e-1):=by rw [hlen,kdI (by omega),show s+(e-s-1)=e-1 by omega]
   generalize hc:seg l s e=c at *
   unfold Gc at h0 ⊢
   rw [f0,f1] at h0 ⊢
   split at h0
   ·omega
   ·rename_i h1
    split at h0
    ·omega
    ·rename_i h2
     split at h0
     ·omega
     ·rename_i h3
      rw [if_neg h1,if_neg h2,if_neg h3]
      unfold gtF; omega
  unfold tF at hn
  rw [List.filter_cons_of_neg (by unfold pT; simp only [decide_eq_true_eq]; omega),List.filter_cons_of_neg (by unfold pT; simp only [decide_eq_true_eq]; omega)]; rfl
 ·rfl
theorem kir {l:List Fed} (hmo:Mono l):∀ {s:Nat} {r:List (Nat×Nat)},Cls (2*b.2.2.1+1) l s r→(s<l.length→tick-b.2.1<tF l s)→(r.flatMap (hS b l)).filter (pT tick)=[]:=by
 intro s r hr
 have s0:=B.s0
 induction hr with
 | nil=>intro _; rfl
 | @cons s e r C hr ih=>
  intro hs
  have hC:=C.le; have hC2:=C.lt
  have hse:=hmo s (e-1) (by omega) (by omega)
  have h1:=hs (by omega)
  rw [List.flatMap_cons,List.filter_append,klk B hmo C (by unfold tF at *; omega),ih fun he=>by
   have:=hmo s e (by omega) he; unfold tF at *; omega]; rfl
theorem kqG {l m:List Fed} {a:Nat} (h:Common (tick-b.2.1) l m a) (hl:Mono l) (hm:Mono m):∀ {s:Nat} {r:List (Nat×Nat)},Cls (2*b.2.2.1+1) l s r→∀ {r':List (Nat×Nat)},Cls (2*b.2.2.1+1) m s r'→s≤a→
  (r.flatMap (hS b l)).filter (pT tick)=(r'.flatMap (hS b m)).filter (pT tick):=by
 intro s r hr
 have s0:=B.s0
 induction hr with
 | nil=>
  intro r' hr' hs
  have:=h.al
  rw [kir B hm hr' fun hlt=>h.hm _ (by omega) hlt]; rfl
 | @cons s e r C hr ih=>
  intro r' hr' hs
  have hC:=C.le; have hC2:=C.lt
  cases hr' with
  | nil=>
   have:=h.am
   exact kir B hl (.cons C hr) fun hlt=>h.hl _ (by omega) hlt
  | @cons _ e' r'' C' hr''=>
   have hC':=C'.le; have hC2':=C'.lt
   by_cases he:tF l (e-1)+(2*b.2.2.1+1)≤tick-b.2.1
   ·obtain ⟨rfl,hea⟩:=knR h C C' he (by omega)
    have hh:hS b l (s,e)=hS b m (s,e):=by
     unfold hS
     dsimp only
     rw [ksl h hC2 hea,h.eq s (by omega),h.eq (e-1) (by omega)]
    rw [List.flatMap_cons,List.flatMap_cons,List.filter_append,List.filter_append,hh,ih hr'' hea]
   ·have he':¬ tF m (e'-1)+(2*b.2.2.1+1)≤tick-b.2.1:=fun hx=>by
     obtain ⟨rfl,hea⟩:=knR h.symm C' C hx (by omega)
     have:=h.eq (e'-1) (by omega)
     unfold tF at *; rw [this] at he; exact he hx
    have n1:(r.flatMap (hS b l)).filter (pT tick)=[]:=kir B hl hr fun hlt=>by
     rcases C.hi with h5 | h5
     ·omega
     ·unfold tF at *; omega
    have n2:(r''.flatMap (hS b m)).filter (pT tick)=[]:=kir B hm hr'' fun hlt=>by
     rcases C'.hi with h5 | h5
     ·omega
     ·unfold tF at *; omega
    rw [List.flatMap_cons,List.flatMap_cons,List.filter_append,List.filter_append,klk B hl C he,klk B hm C' he',n1,n2]
end
theorem kjJ (c:Int):∀ (l:List Fed),(l.Pairwise fun x y=>x.1<y.1)→l.filter (fun x=>decide (x.1≤c))=l.take (l.filter (fun x=>decide (x.1≤c))).length∧∀ x∈l.drop (l.filter (fun x=>decide (x.1≤c))).length,c<x.1
 | [],_=>⟨rfl,fun x hx=>by simp at hx⟩
 | x::r,h=>by
  obtain ⟨h1,h2⟩:=List.pairwise_cons.1 h
  by_cases hx:x.1≤c
  ·obtain ⟨e1,e2⟩:=kjJ c r h2
   have e:(x::r).filter (fun x=>decide (x.1≤c))=x::r.filter (fun x=>decide (x.1≤c)):=List.filter_cons_of_pos (by simpa using hx)
   rw [e,List.length_cons,List.take_succ_cons,List.drop_succ_cons,←e1]
   exact ⟨rfl,e2⟩
  ·have e:(x::r).filter (fun x=>decide (x.1≤c))=[]:=by
    rw [List.filter_eq_nil_iff]
    intro y hy
    rcases List.mem_cons.1 hy with rfl | hy
    ·simpa using hx
    ·have:=h1 y hy; simp; omega
   rw [e]
   refine ⟨rfl,fun y hy=>?_⟩
   rcases List.mem_cons.1 hy with rfl | hy
   ·omega
   ·have:=h1 y hy; omega
def mixF (c:Int) (l o:List Fed):List Fed:=l.filter (fun x=>decide (x.1≤c))++o.filter (fun x=>decide (c<x.1))
theorem kqw {c:Int} {l o:List Fed} (hl:l.Pairwise fun x y=>x.1<y.1):Common c l (mixF c l o) (l.filter (fun x=>decide (x.1≤c))).length:=by
 obtain ⟨e1,e2⟩:=kjJ c l hl
 have hle:(l.filter (fun x=>decide (x.1≤c))).length≤l.length:=List.length_filter_le _ _
 refine ⟨hle,by unfold mixF; rw [List.length_append]; omega,fun i hi=>?_,fun i h1 h2=>?_,fun i h1 h2=>?_⟩
 ·unfold mixF fd
  rw [List.getElem?_append_left hi]
  conv=>rhs; rw [e1]
  rw [List.getElem?_take,if_pos hi]
 ·unfold tF
  rw [kdD h2]
  have hd:i-(l.filter (fun x=>decide (x.1≤c))).length<(l.drop (l.filter (fun x=>decide (x.1≤c))).length).length:=by rw [List.length_drop]; omega
  have:=e2 _ (List.getElem_mem hd)
  rw [List.getElem_drop] at this
  simpa [show (l.filter (fun x=>decide (x.1≤c))).length+(i-(l.filter (fun x=>decide (x.1≤c))).length)=i by omega] using this
 ·unfold tF
  rw [kdD h2]
  have:(mixF c l o)[i]∈o.filter (fun x=>decide (c<x.1)):=by
   unfold mixF at h2 ⊢
   rw [List.getElem_append_right h1]; exact List.getElem_mem _
  simpa using (List.mem_filter.1 this).2
theorem kfq {α:Type} (p:α→Bool):∀ (l acc:List α),l.foldl (fun s x=>if p x=true then s++[x] else s) acc=acc++l.filter p
 | [],acc=>by simp
 | x::l,acc=>by
  rw [List.foldl_cons,kfq p l]
  by_cases h:p x=true
  ·rw [if_pos h,List.filter_cons_of_pos h,List.append_assoc]; rfl
  ·rw [if_neg h,List.filter_cons_of_neg h]
theorem krH (b:Belt) (l:List Fed) (tick:Int) (hl:l.length≤1000):iter (kbT b l tick) (0,[])=some (l.filter fun x=>decide (x.1≤w64 (tick-b.2.1))):=by
 rw [kdT (F:=kbT b l tick) l (by omega) (fun i s=>s.length≤i) (fun s x=>if decide (x.1≤w64 (tick-b.2.1))=true then s++[x] else s) id (fun i s hi hs=>by
  unfold kbT
  dsimp only
  rw [if_pos (lenI_lt.2 hi),kbs hi,kbB (by omega)]
  simp only [Option.bind_some]
  split
  ·rw [kff (by simp; omega)]; rfl
  ·rfl) (fun i s hi hs=>by
  split
  ·rw [List.length_append,List.length_singleton]; omega
  ·omega) (fun s hs=>by
  unfold kbT
  dsimp only
  rw [if_neg kbc]; rfl) [] (by simp)]
 rw [kfq (fun x:Fed=>decide (x.1≤w64 (tick-b.2.1)))]; rfl
theorem krx (b:Belt) (l:List Fed) (tick:Int) (hl:l.length≤1000) (acc:List Fed) (ha:acc.length≤1000):iter (kbU b l tick) (0,acc)=some (acc++l.filter fun x=>decide (w64 (tick-b.2.1)<x.1)):=by
 rw [kdT (F:=kbU b l tick) l (by omega) (fun i s=>s.length≤acc.length+i) (fun s x=>if decide (w64 (tick-b.2.1)<x.1)=true then s++[x] else s) id (fun i s hi hs=>by
  unfold kbU
  dsimp only
  rw [if_pos (lenI_lt.2 hi),kbs hi,kbB (by omega)]
  simp only [Option.bind_some]
  split
  ·rw [kff (by simp; omega)]; rfl
  ·rfl) (fun i s hi hs=>by
  split
  ·rw [List.length_append,List.length_singleton]; omega
  ·omega) (fun s hs=>by
  unfold kbU
  dsimp only
  rw [if_neg kbc]; rfl) acc (by simp)]
 rw [kfq (fun x:Fed=>decide (w64 (tick-b.2.1)<x.1))]; rfl
theorem kpm (W:List Sw) (tick:Int) (hl:W.length≤1000):keR W tick=some (W.filter (pT tick)):=by
 unfold keR
 rw [kdT (F:=keI W tick) W (by omega) (fun i s=>s.length≤i) (fun s x=>if decide (x.1≤tick)=true then s++[x] else s) id (fun i s hi hs=>by
  unfold keI
  dsimp only
  rw [if_pos (lenI_lt.2 hi),kbs hi,kbB (by omega)]
  simp only [Option.bind_some]
  split
  ·rw [kff (by simp; omega)]; rfl
  ·rfl) (fun i s hi hs=>by
  split
  ·rw [List.length_append,List.length_singleton]; omega
  ·omega) (fun s hs=>by
  unfold keI
  dsimp only
  rw [if_neg kbc]; rfl) [] (by simp)]
 rw [kfq (fun x:Sw=>decide (x.1≤tick))]; rfl
theorem kne {f:List Fed} (h2:fedR f=true):Mono f∧f.Pairwise fun x y=>x.1<y.1:=by
 obtain ⟨L,-,hmo⟩:=kmk h2
 refine ⟨fun i j hij hj=>?_,?_⟩
 ·by_cases e1:i=j
  ·rw [e1]; exact Int.le_refl _
  ·exact Int.le_of_lt (hmo i j (by omega) hj)
 ·unfold fedR at h2
  simp only [Bool.and_eq_true,decide_eq_true_eq] at h2
  exact (kiW h2.2).1
theorem law09_SortCausal_eq (b:Belt) (l o:List Fed) (tick:Int):kfd b l o tick=some true:=by
 unfold kfd
 rw [kta]
 simp only [Option.bind_some]
 obtain ⟨r,hr1,hr2⟩:=knI b l
 rw [hr1]
 simp only [Option.bind_some]
 cases r with
 | true=>rfl
 | false=>
  obtain ⟨a1,a2,a3,a4⟩:=hr2 rfl
  simp only [Bool.false_eq_true,if_false]
  by_cases ho:decide (60<lenI o)=true
  ·rw [if_pos ho]
  ·rw [if_neg ho]
   obtain ⟨q,hq1,hq2⟩:=knI b o
   rw [hq1]
   simp only [Option.bind_some]
   cases q with
   | true=>rfl
   | false=>
    obtain ⟨-,-,c3,c4⟩:=hq2 rfl
    simp only [Bool.false_eq_true,if_false,decide_eq_true_eq]
    by_cases t1:tick < -5000
    ·rw [if_pos t1]
    ·rw [if_neg t1]
     by_cases t2:5000<tick
     ·rw [if_pos t2]
     ·rw [if_neg t2,if_neg (by decide),kjf b a1 a2]
      simp only [Option.bind_some]
      by_cases h1:beltR b=true
      ·have B:=klb h1
       have b0:=B.c0; have b1:=B.c1
       rw [if_pos h1,if_neg (by simp),krH b l tick a4]
       simp only [Option.bind_some]
       have hfl:(l.filter fun x=>decide (x.1≤w64 (tick-b.2.1))).length≤l.length:=List.length_filter_le _ _
       have hfo:(o.filter fun x=>decide (w64 (tick-b.2.1)<x.1)).length≤o.length:=List.length_filter_le _ _
       rw [kbj,decide_eq_true_eq] at ho
       have ol:¬ (60:Int)<l.length:=by
        intro hh
        unfold kdS at hr1
        rw [kbj,kbj,kbj] at hr1
        rw [if_neg (by simp only [decide_eq_true_eq]; have:=B.gl; omega),if_neg (by simp only [decide_eq_true_eq]; have:=B.bl; omega),if_pos (by simpa using hh)] at hr1
        cases hr1
       rw [krx b o tick c4 _ (by omega)]
       simp only [Option.bind_some]
       rw [kao (x:=tick-b.2.1) (by omega) (by omega)]
       rw [kao (x:=tick-b.2.1) (by omega) (by omega)] at hfl hfo
       rw [show l.filter (fun x=>decide (x.1≤tick-b.2.1))++o.filter (fun x=>decide (tick-b.2.1<x.1))=mixF (tick-b.2.1) l o from rfl]
       have hml:(mixF (tick-b.2.1) l o).length≤1000:=by unfold mixF; rw [List.length_append]; omega
       have hmr:∀ x∈mixF (tick-b.2.1) l o,x.2.2.length≤1000:=fun x hx=>by
        unfold mixF at hx
        rcases List.mem_append.1 hx with hx | hx
        ·exact a3 x (List.mem_filter.1 hx).1
        ·exact c3 x (List.mem_filter.1 hx).1
       by_cases h2:fedR l=true
       ·obtain ⟨r,hr,-⟩:=kjc a1 a2 a3 a4 h1 h2
        obtain ⟨W,hw,w1,w2,w3⟩:=khI a1 a2 a3 a4 h1 h2 hr
        rw [hw]
        simp only [Option.bind_some]
        by_cases h3:fedR (mixF (tick-b.2.1) l o)=true
        ·obtain ⟨r',hr',-⟩:=kjc a1 a2 hmr hml h1 h3
         obtain ⟨W',hw',w1',w2',w3'⟩:=khI a1 a2 hmr hml h1 h3 hr'
         rw [hw']
         simp only [Option.bind_some]
         rw [if_neg (by simp),if_neg (by simp),if_pos trivial,kpm W tick w3,kpm W' tick w3']
         obtain ⟨m1,m2⟩:=kne h2
         obtain ⟨m3,-⟩:=kne h3
         have hSS:=kqG B (kqw (o:=o) m2) m1 m3 hr hr' (Nat.zero_le _)
         have e:W.filter (pT tick)=W'.filter (pT tick):=by
          refine krJ (S:=(r.flatMap (hS b l)).filter (pT tick)) (List.Pairwise.filter _ (ksq B m1 hr)) (w1.filter _) ?_ (w2.filter _) (w2'.filter _)
          rw [hSS]; exact w1'.filter _
         rw [e]
         simp only [Option.bind_some]
         rw [klZ _ (by have:=List.length_filter_le (pT tick) W'; omega)]
         rfl
        ·obtain ⟨e,he,-,hw'⟩:=kla a1 a2 hmr hml (b:=b) (fun h=>h3 h.2)
         rw [hw']
         simp only [Option.bind_some]
         rw [if_neg (by simp),if_pos (by simpa using he)]
       ·obtain ⟨e,he,-,hw'⟩:=kla a1 a2 a3 a4 (b:=b) (fun h=>h2 h.2)
        rw [hw']
        simp only [Option.bind_some]
        obtain ⟨z,hz⟩:∃ z,kbX b (mixF (tick-b.2.1) l o)=some z:=by
         by_cases h3:fedR (mixF (tick-b.2.1) l o)=true
         ·obtain ⟨r',hr',-⟩:=kjc a1 a2 hmr hml h1 h3
          obtain ⟨W',hw',-⟩:=khI a1 a2 hmr hml h1 h3 hr'
          exact ⟨_,hw'⟩
         ·obtain ⟨e,he,-,hw'⟩:=kla a1 a2 hmr hml (b:=b) (fun h=>h3 h.2)
          exact ⟨_,hw'⟩
        rw [hz]
        simp only [Option.bind_some]
        rw [if_pos (by simpa using he)]
      ·rw [if_neg h1,if_pos (by simp)]
end Go.Abs
