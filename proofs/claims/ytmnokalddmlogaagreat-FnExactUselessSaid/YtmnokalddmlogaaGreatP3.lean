/- Parts of the proof. -/
import Derived.Test.YtmnokalddmlogaaGreatP2
set_option linter.unusedSimpArgs false
set_option linter.unusedVariables false
set_option maxRecDepth 100000
set_option maxHeartbeats 8000000
namespace Go.Proofs.YtmnokalddmlogaaGreat
section
open Go.RowKit
def fdB(σ:St):D->Option (Prop×D)
 | .bx id off=>match σ.b id with
  | some (.box row)=>match fdL σ row with
   | some (ob,ds)=>some (off=off/\ob,.opa off ds)
   | none=>none
  | _=>none
 | c=>fdC σ c
def idB(σ:St):D->List Nat
 | .bx id _=>match σ.b id with
  | some (.box row)=>id::idsC row
  | _=>[]
 | .bs id _ _=>[id]
 | _=>[]
theorem Rel.lendCell{x:Cx}{g:Gh}{σ:St}{a:Act}{w:World}(h:Rel x g σ a w){gs:List Gv}{bs:List Nat}{c d:D}{ob:Prop}{u:Value}(hf:fdB σ c=some (ob,d))(ho:ob)(hu:RC g w none c u)(hb:∀ i∈idB σ c,i∈bs)(p:Option Pos) :
  Rep (calG g gs bs).S (calG g gs bs).up w p (frz d) u:=by
 have lend:∀ {c d:D} {ob:Prop} {u:Value} {p0:Option Pos},fdC σ c=some (ob,d)->ob->RC g w p0 c u->(∀ i,idC c=some i->i∈bs)->(∀ q,p0=some q->PU g.up (fun i=>i∈bs) q)->Rep (calG g gs bs).S (calG g gs bs).up w none (frz d) u:=by
  intro c d ob u p0 hf ho hu hi hp;rcases Yz h hf ho hu with ⟨q1,q2⟩|⟨i,q1,q2⟩
  ·exact q2.froz (S':=(calG g gs bs).S) (up':=(calG g gs bs).up) (R:=fun i=>i∈bs) (fun b=>.inl) (fun b=>.inr) hp
  ·exact q2.froz (S':=(calG g gs bs).S) (up':=(calG g gs bs).up) (R:=fun i=>i∈bs) (fun b=>.inl) (fun b=>.inr) (fun q hq=>by injection hq with hq;subst hq;exact hi i q1)
 refine Rep.any ?_ p
 by_cases hx:∃ id off,c=.bx id off
 ·obtain ⟨id,off,rfl⟩:=hx
  simp only [fdB] at hf
  split at hf
  ·rename_i row hrow
   split at hf
   ·rename_i ob' ds hfd
    injection hf with hf;injection hf with e1 e2
    subst e1 e2;obtain ⟨-,ho⟩:=ho;simp only [idB,hrow] at hb
    obtain ⟨b,hβ,rfl⟩:=hu;obtain ⟨b',cs,ty,c1,c2,c3,c4,c5⟩:=h.ob id _ hrow;rw [c1] at hβ;injection hβ with hβ;subst hβ
    obtain ⟨l1,l2⟩:=Vn _ _ _ hfd ho;have hund:Und g.up (fun i=>i∈bs) b':=.root c2 (hb id (by simp))
    have hcell:∀ (j:Nat) (d:D),(frzL ds)[j]?=some d->∃ c0 d0 o1,row[j]?=some c0/\fdC σ c0=some (o1,d0)/\o1/\d=frz d0:=by
     intro j d hj;rw [wH,List.getElem?_map] at hj
     obtain ⟨d0,q2,q3⟩:=Option.map_eq_some_iff.1 hj;have hlt:j<row.length:=by rw [<- l1];exact (List.getElem?_eq_some_iff.1 q2).1
     obtain ⟨o1,f1,f2⟩:=l2 j _ d0 (List.getElem?_eq_getElem hlt) q2;exact ⟨_,d0,o1,List.getElem?_eq_getElem hlt,f1,f2,q3.symm⟩
    simp only [frz];rw [show (⟨b',off,none⟩:Addr)=⟨b',0+off,none⟩ by rw [Nat.zero_add]]
    refine Rep.pt_drop (Rep.pt (fun j=>cs.getD j undef) (fun j d hj=>⟨.inr hund,?_⟩) (fun j d hj=>?_)) off
    ·obtain ⟨c0,d0,o1,q1,-⟩:=hcell j d hj
     have hlt:j<cs.size:=by rw [c4];exact (List.getElem?_eq_some_iff.1 q1).1
     simp only [World.cell?,c3,Nat.zero_add];rw [if_neg (by simp)]
     exact wz hlt
    ·obtain ⟨c0,d0,o1,q1,q2,q3,rfl⟩:=hcell j d hj
     exact lend q2 q3 (c5 j c0 q1) (fun i hi=>hb i (List.mem_cons_of_mem _ (vw q1 hi))) (fun q hq=>by injection hq with hq;subst hq;exact hund)
   ·cases hf
  ·cases hf
 ·have hf':fdC σ c=some (ob,d):=by
   cases c<;>first|exact hf|exact absurd ⟨_,_,rfl⟩ hx
  refine lend hf' ho hu (fun i hi=>?_) (fun q hq=>by cases hq)
  cases c<;>first|(cases hi;done)|exact absurd ⟨_,_,rfl⟩ hx|(injection hi with hi;subst hi;exact hb _ (by simp [idB]))
def argC(σ:St)(m:Nat)(c:D):Option (Prop×D):=if m=1 then fdC σ c else match fdB σ c with
 | some (ob,d)=>some (ob,frz d)
 | none=>none
def argL(σ:St)(m:Nat):List D->Option (Prop×List D)
 | []=>some (True,[])
 | c::l=>match argC σ m c,argL σ m l with
  | some (o1,d),some (o2,ds)=>some (o1/\o2,d::ds)
  | _,_=>none
def argD(σ:St)(m:Nat):D->Option (Prop×D)
 | .ag xs=>match argL σ m xs with
  | some (ob,ds)=>some (ob,.ag ds)
  | none=>none
 | .un=>none
 | .tup _=>none
 | .mb _ _=>none
 | c=>argC σ m c
def gvL(j:Nat):Nat->List D->List Gv
 | _,[]=>[]
 | l,c::r=>match idC c with
  | some i=>(i,j,l)::gvL j (l+1) r
  | none=>gvL j (l+1) r
def bsL(σ:St):List D->List Nat
 | []=>[]
 | c::r=>idB σ c++bsL σ r
def zr:D->List D
 | .ag xs=>xs
 | c=>[c]
def wU(σ:St)(md:List Nat):Nat->List Operand->Option (Prop×List D×List Gv×List Nat)
 | _,[]=>some (True,[],[],[])
 | j,z::l=>match argD σ (md.getD j 0) (xz (ev σ z)),wU σ md (j+1) l with
  | some (o1,d),some (o2,ds,gs,bs)=>some (oblT (ev σ z)/\o1/\o2,d::ds,(if md.getD j 0=1 then gvL j 0 (zr (xz (ev σ z))) else [])++gs,(if md.getD j 0=1 then [] else bsL σ (zr (xz (ev σ z))))++bs)
  | _,_=>none
theorem Wo(j:Nat):∀ (l:List D) (q i j' l':Nat),(i,j',l')∈gvL j q l->j'=j/\∃ n c,l'=q+n/\l[n]?=some c/\idC c=some i
 | [],q,i,j',l',h=>by cases h
 | c::l,q,i,j',l',h=>by
  unfold gvL at h
  have tl:(i,j',l')∈gvL j (q+1) l->j'=j/\∃ n c',l'=q+n/\(c::l)[n]?=some c'/\idC c'=some i:=fun h=>by
   obtain ⟨h1,n,c',h2,h3,h4⟩:=Wo j l (q+1) i j' l' h;exact ⟨h1,n+1,c',by omega,by simpa using h3,h4⟩
  split at h
  ·rename_i i' hc
   rcases List.mem_cons.1 h with e|h
   ·injection e with e1 e2;injection e2 with e2 e3
    subst e1 e2 e3;exact ⟨rfl,0,c,rfl,rfl,hc⟩
   ·exact tl h
  ·exact tl h
theorem gvL_of(j:Nat):∀ (l:List D) (q n:Nat) (c:D) (i:Nat),l[n]?=some c->idC c=some i->(i,j,q+n)∈gvL j q l
 | [],q,n,c,i,h,_=>by simp at h
 | d::l,q,0,c,i,h,hc=>by simp at h;subst h;unfold gvL;rw [hc];simp
 | d::l,q,n+1,c,i,h,hc=>by
  have:=gvL_of j l (q+1) n c i (by simpa using h) hc
  rw [show q+1+n=q+(n+1) by omega] at this
  unfold gvL;cases idC d with
  | none=>exact this
  | some _=>exact List.mem_cons_of_mem _ this
theorem bsL_mem{σ:St}{l:List D}{n:Nat}{c:D}{i:Nat}(h:l[n]?=some c)(hi:i∈idB σ c):i∈bsL σ l:=by
 induction l generalizing n with
 | nil=>simp at h
 | cons d l ih=>
  cases n with
  | zero=>simp at h;subst h;simp [bsL,hi]
  | succ n=>simp [bsL,ih (n:=n) (by simpa using h)]
theorem argL_at{σ:St}{m:Nat}:∀ (l:List D) (ob:Prop) (ds:List D),argL σ m l=some (ob,ds)->ob->ds.length=l.length/\∀ (j:Nat) (c d:D),l[j]?=some c->ds[j]?=some d->∃ o1,argC σ m c=some (o1,d)/\o1
 | [],ob,ds,h,ho=>by injection h with h;injection h with e1 e2;subst e2;exact ⟨rfl,fun j c d q=>by simp at q⟩
 | c::l,ob,ds,h,ho=>by
  unfold argL at h
  split at h
  ·rename_i o1 d o2 ds' h1 h2
   injection h with h;injection h with e1 e2
   subst e1 e2;obtain ⟨i1,i2⟩:=argL_at l o2 ds' h2 ho.2;refine ⟨by simp [i1],fun j c' d' q1 q2=>?_⟩
   cases j with
   | zero=>simp at q1 q2;subst q1 q2;exact ⟨o1,h1,ho.1⟩
   | succ j=>exact i2 j c' d' (by simpa using q1) (by simpa using q2)
  ·cases h
section
variable {x:Cx} {g:Gh} {σ:St} {a:Act} {w:World}
theorem fdC_gv{c d:D}{ob:Prop}{i:Nat}{u:Value}(hf:fdC σ c=some (ob,d))(ho:ob)(hi:idC c=some i)(hu:RC g w none c u):(∃ o,σ.b i=some o)/\((∃ k n,RC g w none (.bs i k n) u)\/(∃ o0,RC g w none (.bx i o0) u)):=by
 cases c with
 | bs id k n=>
  injection hi with hi;subst hi
  simp only [fdC] at hf
  split at hf
  ·rename_i e k' rows hb;exact ⟨⟨_,hb⟩,.inl ⟨k,n,hu⟩⟩
  ·cases hf
 | bx id off=>
  injection hi with hi;subst hi
  simp only [fdC] at hf
  split at hf
  ·rename_i row hb
   injection hf with hf;injection hf with e1 e2
   subst e1;exact ⟨⟨_,hb⟩,.inr ⟨_,hu⟩⟩
  ·cases hf
 | _=>cases hi
theorem argD_ok(h:Rel x g σ a w){gs:List Gv}{bs:List Nat}(hnd:nodB (gvN gs)=true){m j:Nat}{y d:D}{ob:Prop}{v:Value}(hf:argD σ m y=some (ob,d))(ho:ob)(hv:RE g w y v)
  (hg:m=1->∀ p∈gvL j 0 (zr y),p∈gs) (hb:m≠1->∀ i∈bsL σ (zr y),i∈bs):RA (calG g gs bs) w j d v/\(m=1->∀ i l,(i,j,l)∈gvL j 0 (zr y)->(∃ o,σ.b i=some o)/\((∃ k n,RC g w none (.bs i k n) (xH v l))\/(∃ o0,RC g w none (.bx i o0) (xH v l)))):=by
 have cell:∀ {c d:D} {ob:Prop} {l:Nat} {u:Value},argC σ m c=some (ob,d)->ob->RC g w none c u->(zr y)[l]?=some c->Rep (calG g gs bs).S (calG g gs bs).up w (some (.par j l)) d u:=by
  intro c d ob l u hf ho hu hc;unfold argC at hf
  split at hf
  ·rename_i hm
   obtain ⟨q1,q2,-⟩:=h.calCell (gs:=gs) (bs:=bs) hf ho hu;cases hi:idC c with
   | none=>exact q1 hi _
   | some i=>
    have:=gvL_of j _ 0 l c i hc hi;rw [Nat.zero_add] at this
    exact q2 i j l hi (hg hm _ this) hnd
  ·rename_i hm
   split at hf
   ·rename_i ob' d' hf'
    injection hf with hf;injection hf with e1 e2
    subst e1 e2;exact h.lendCell hf' ho hu (fun i hi=>hb hm i (bsL_mem hc hi)) _
   ·cases hf
 have gv:∀ {c d:D} {ob:Prop} {i:Nat} {u:Value},m=1->argC σ m c=some (ob,d)->ob->idC c=some i->RC g w none c u->(∃ o,σ.b i=some o)/\((∃ k n,RC g w none (.bs i k n) u)\/(∃ o0,RC g w none (.bx i o0) u)):=by
  intro c d ob i u hm hf ho hi hu;unfold argC at hf
  rw [if_pos hm] at hf
  exact fdC_gv hf ho hi hu
 have one:∀ c,y=c->zr y=[c]->argC σ m c=some (ob,d)->RC g w none c v->v.oneCell'=true->Rep (calG g gs bs).S (calG g gs bs).up w (some (.par j 0)) d v/\(m=1->∀ i l,(i,j,l)∈gvL j 0 (zr y)->(∃ o,σ.b i=some o)/\((∃ k n,RC g w none (.bs i k n) (xH v l))\/(∃ o0,RC g w none (.bx i o0) (xH v l)))):=by
  intro c hy hc hf hu h1;refine ⟨cell hf ho hu (by rw [hc];rfl),fun hm i l hq=>?_⟩
  obtain ⟨-,n,c',rfl,q2,q3⟩:=Wo j _ 0 i j l hq;rw [hc] at q2
  have:n=0:=by
   cases n with
   | zero=>rfl
   | succ n=>simp at q2
  subst this;injection q2 with q2;subst q2
  rw [z3 h1];exact gv hm hf ho q3 hu
 cases y with
 | ag xs=>
  simp only [argD] at hf
  split at hf
  ·rename_i ob' ds hl
   injection hf with hf;injection hf with e1 e2
   subst e1 e2;obtain ⟨us,rfl,u1,u2⟩:=hv;obtain ⟨l1,l2⟩:=argL_at _ _ _ hl ho;refine ⟨⟨us,rfl,by rw [u1,l1],fun l d' u hd hu=>?_⟩,fun hm i l hq=>?_⟩
   ·have hlt:l<xs.length:=by rw [<- l1];exact (List.getElem?_eq_some_iff.1 hd).1
    have hc:xs[l]?=some xs[l]:=List.getElem?_eq_getElem hlt;obtain ⟨o1,f1,f2⟩:=l2 l _ d' hc hd;exact cell f1 f2 (u2 l _ u hc hu) hc
   ·obtain ⟨-,n,c',rfl,q2,q3⟩:=Wo j _ 0 i j l hq
    rw [Nat.zero_add];have q2:xs[n]?=some c':=q2;have hlt:n<us.length:=by rw [u1];exact (List.getElem?_eq_some_iff.1 q2).1
    have hu:us[n]?=some us[n]:=List.getElem?_eq_getElem hlt;have hd:ds[n]?=some (ds[n]'(by omega)):=List.getElem?_eq_getElem (by omega)
    obtain ⟨o1,f1,f2⟩:=l2 n c' _ q2 hd;have:xH (.agg us.toArray) n=us[n]:=Xk hu;rw [this];exact gv hm f1 f2 q3 (u2 n c' _ q2 hu)
  ·cases hf
 | un=>cases hf
 | tup _=>cases hf
 | mb _ _=>cases hf
 | _=>
  simp only [argD] at hf
  simp only [RE] at hv
  obtain ⟨q1,q2⟩:=one _ rfl rfl hf hv hv.one;refine ⟨?_,q2⟩;cases d<;>first|exact q1|cases q1
theorem xaF(h:Rel x g σ a w){md:List Nat}{gs:List Gv}{bs:List Nat}(hnd:nodB (gvN gs)=true):∀ (l:List Operand) (j:Nat) (ob:Prop) (ds:List D) (gs':List Gv) (bs':List Nat),wU σ md j l=some (ob,ds,gs',bs')->ob->(∀ p∈gs',p∈gs)->(∀ i∈bs',i∈bs) ->
  ds.length=l.length/\(∀ (q:Nat) (d:D) (u:Value),ds[q]?=some d->(l.map a.eval)[q]?=some u->RA (calG g gs bs) w (j+q) d u) /\
   ∀ i j' l',(i,j',l')∈gs'->j<=j'/\(∃ o,σ.b i=some o)/\∃ u,(l.map a.eval)[j' - j]?=some u/\((∃ k n,RC g w none (.bs i k n) (xH u l'))\/(∃ o0,RC g w none (.bx i o0) (xH u l')))
 | [],j,ob,ds,gs',bs',hf,ho,hg,hb=>by
  injection hf with hf;injection hf with e1 e2;injection e2 with e2 e3;injection e3 with e3 e4
  subst e2 e3 e4;exact ⟨rfl,fun q d u hq=>by simp at hq,fun i j' l' hq=>by cases hq⟩
 | z::l,j,ob,ds,gs',bs',hf,ho,hg,hb=>by
  unfold wU at hf
  split at hf
  ·rename_i o1 d o2 ds' gs2 bs2 h1 h2
   injection hf with hf;injection hf with e1 e2;injection e2 with e2 e3;injection e3 with e3 e4
   subst e1 e2 e3 e4;obtain ⟨p1,p2,p3⟩:=ho;have hv:=zP (Xj h z) p1;obtain ⟨a1,a2⟩:=argD_ok h (gs:=gs) (bs:=bs) hnd (j:=j) h1 p2 hv (fun hm p hp=>hg p (by rw [if_pos hm];exact List.mem_append_left _ hp)) (fun hm i hi=>hb i (by rw [if_neg hm];exact List.mem_append_left _ hi))
   obtain ⟨i1,i2,i3⟩:=xaF h hnd l (j+1) o2 ds' gs2 bs2 h2 p3 (fun p hp=>hg p (List.mem_append_right _ hp)) (fun i hi=>hb i (List.mem_append_right _ hi))
   refine ⟨by simp [i1],fun q d' u hd hu=>?_,fun i j' l' hq=>?_⟩
   ·cases q with
    | zero=>simp at hd hu;subst hd hu;exact a1
    | succ q=>
     have:=i2 q d' u (by simpa using hd) (by simpa using hu)
     rw [show j+1+q=j+(q+1) by omega] at this;exact this
   ·rcases List.mem_append.1 hq with hq|hq
    ·split at hq
     ·rename_i hm
      have hj:=(Wo j _ 0 i j' l' hq).1;subst hj;obtain ⟨q1,q2⟩:=a2 hm i l' hq;exact ⟨Nat.le_refl _,q1,_,by simp,q2⟩
     ·cases hq
    ·obtain ⟨q1,q2,u,q3,q4⟩:=i3 i j' l' hq
     refine ⟨by omega,q2,u,?_,q4⟩
     rw [show j' - j=j' - (j+1)+1 by omega]
     simpa using q3
  ·cases hf
def frA:D->D
 | .tup xs=>.tup (xs.map fun y=>match y with
  | .ag ys=>.ag (frzL ys)
  | y=>frz y)
 | .ag xs=>.ag (frzL xs)
 | y=>frz y
theorem Rel.callQ(hr:Rel x g σ a w){bs:List Nat}{w':World}{g':Gh}{r:D}{v:Value}
  (b1:Below 0 w w') (b2:∀ b,b<w.heap.size->(calG g [] bs).up b=none->w'.heap[b]?=w.heap[b]?) (b3:∀ b,(calG g [] bs).S b->g'.S b) (b4:∀ b,b<w.heap.size->g'.S b->(calG g [] bs).S b\/(calG g [] bs).up b≠none) (b5:∀ b,g'.S b->b<w'.heap.size)
  (b6:∀ b p,g'.up b=some p->b<w'.heap.size/\(b<w.heap.size->(calG g [] bs).up b≠none)/\¬ g'.S b) (b7:RNs g' w' r v) (hpu:bs=[]\/Pure r):∃ ga,Rel x ga σ a w'/\RT ga w' (frA r) v:=by
 have hno:∀ b,(calG g [] bs).up b=none:=fun b=>Classical.byContradiction fun e=>by
  obtain ⟨i,hi⟩:=(ut.1 e).some;cases hi
 let Rb:Nat->Prop:=fun i=>i∈bs
 let π:Pos->Pos:=fun p=>match p with
  | .cell b o=>.cell b o
  | _=>.root 0
 let gm:Gh:=⟨fun _=>none,fun _=>0,fun b=>(g'.up b).map π,fun b=>g'.S b/\¬ Und g.up Rb b⟩
 let ga:Gh:=⟨g.β,g.κ,g.up,fun b=>(g'.S b/\¬ Und g.up Rb b)\/g'.up b≠none⟩
 have hnew:∀ b,g'.up b≠none->b<w'.heap.size/\w.heap.size<=b:=fun b q=>by
  cases hq:g'.up b with
  | none=>exact absurd hq q
  | some p=>
   obtain ⟨o1,o2,-⟩:=b6 b p hq;refine ⟨o1,?_⟩;rcases Nat.lt_or_ge b w.heap.size with r|r
   ·exact absurd (hno b) (o2 r)
   ·exact r
 have ev:Ev (fun _=>True) (fun p=>p) pAll pAll g ga w w':=by
  refine ⟨⟨fun b hb=>⟨.inl ⟨b3 b (.inl hb),fun q=>(hr.und q).2.2 hb⟩,b2 b (hr.new b hb) (hno b)⟩,fun b p hb _=>⟨hb,b2 b (hr.own b p hb).1 (hno b)⟩,fun b p o _ _=>⟨trivial,rfl⟩⟩,fun i _=>⟨rfl,rfl⟩,fun i _=>⟨rfl,trivial,rfl⟩⟩
 have hR:=hr.ev ev b1 (fun b hb _=>b2 b (by have:=hr.bel.size;omega) (hno b)) (fun b hb hs=>by
  have:=hr.bel.size;rcases hs with ⟨q1,q2⟩|q
  ·rcases b4 b (by omega) q1 with (r|r)|r
   ·exact .inl r
   ·exact absurd r q2
   ·exact absurd (hno b) r
  ·have:=(hnew b q).2;omega) (fun b hs=>hs.elim (fun q=>b5 b q.1) (fun q=>(hnew b q).1)) (fun b p hp=>by
  obtain ⟨o1,o2,o3⟩:=hr.own b p hp;refine ⟨by have:=b1.size;omega,o2,fun hs=>?_⟩
  rcases hs with ⟨q1,q2⟩|q
  ·rcases b4 b o1 q1 with (r|r)|r
   ·exact o3 r
   ·exact q2 r
   ·exact absurd (hno b) r
  ·have:=(hnew b q).2;omega)
 rw [sc_all] at hR
 have key:∀ (p:Pos) (c:D) (u:Value),(∀ b o,p≠.cell b o)->Rep g'.S g'.up w' (some p) c u->(bs=[]\/Pure c)->Rep ga.S ga.up w' none (frz c) u:=by
  intro p c u hp h hq;have h1:Rep gm.S gm.up w' ((some p).map π) c u:=Rep.pmove (fun b p hb=>⟨by show (g'.up b).map π=_;rw [hb];rfl,rfl⟩) (fun b o=>rfl) h (hq.imp (fun q b hs=>⟨⟨hs,fun e=>by obtain ⟨i,hi⟩:=e.some;simp only [Rb,q] at hi;cases hi⟩,rfl⟩) id)
  refine h1.froz (S':=ga.S) (up':=ga.up) (R:=fun _=>True) (fun b hs=>.inl hs) (fun b hu=>.inr fun e=>?_) (fun q hq=>?_)
  ·have:gm.up b=none:=by show (g'.up b).map π=none;rw [e];rfl
   cases hu with
   | root h' _=>rw [this] at h';cases h'
   | cell h' _=>rw [this] at h';cases h'
  ·rw [Option.map_some] at hq
   injection hq with hq;subst hq
   cases p with
   | cell b o=>exact absurd rfl (hp b o)
   | _=>trivial
 refine ⟨ga,hR,?_⟩;have cellE:∀ (m:Nat) (y:D) (u:Value),RN g' w' m y u->(bs=[]\/Pure y)->RE ga w' (match y with|.ag ys=>.ag (frzL ys)|y=>frz y) u:=by
  intro m y u hN hp;cases y with
  | un=>trivial
  | ag xs=>
   obtain ⟨us,rfl,n1,n2⟩:=hN;refine ⟨us,rfl,by rw [Ux];exact n1,fun l c z hc hz=>?_⟩
   rw [wH,List.getElem?_map] at hc
   obtain ⟨c0,q1,rfl⟩:=Option.map_eq_some_iff.1 hc;exact (key _ _ _ (fun _ _=>by simp) (n2 l c0 z q1 hz) (hp.imp id fun p=>p.cell q1)).rc
  | tup _=>simp only [RN] at hN;cases hN
  | mb _ _=>simp only [RN] at hN;cases hN
  | bx _ _=>simp only [RN] at hN;cases hN
  | el _ _ _ _=>simp only [RN] at hN;cases hN
  | bs _ _ _=>simp only [RN] at hN;cases hN
  | _=>simp only [RN] at hN;exact (key _ _ _ (fun _ _=>by simp) hN hp).rc.re
 cases r with
 | tup xs=>
  obtain ⟨us,rfl,n1,n2⟩:=b7;refine ⟨us,rfl,by simp [n1],fun m y u hy hu=>?_⟩
  rw [List.getElem?_map] at hy
  obtain ⟨y0,q1,rfl⟩:=Option.map_eq_some_iff.1 hy;exact cellE m y0 u (n2 m y0 u q1 hu) (hpu.imp id fun p=>p.comp q1)
 | un=>trivial
 | ag xs=>exact (cellE 0 (.ag xs) v b7 hpu).rt
 | mb _ _=>simp only [RNs,RN] at b7;cases b7
 | bx _ _=>simp only [RNs,RN] at b7;cases b7
 | el _ _ _ _=>simp only [RNs,RN] at b7;cases b7
 | bs _ _ _=>simp only [RNs,RN] at b7;cases b7
 | _=>simp only [RNs] at b7;exact (cellE 0 _ v b7 hpu).rt
end
structure Md where
 P:Program
 md:FuncId->List Nat
 mix:P.follows .mixedOrders=true
 lit:Bool:=false
 lr:Nat->Bool:=fun _=>false
def Md.at(M:Md)(id:Nat):Md:=⟨M.P,M.md,M.mix,M.lr id,M.lr⟩
theorem Md.at_P(M:Md)(id:Nat):(M.at id).P=M.P:=rfl
theorem Md.at_md(M:Md)(id:Nat):(M.at id).md=M.md:=rfl
theorem Md.at_lit(M:Md)(id:Nat):(M.at id).lit=M.lr id:=rfl
def litB:List Nat->Nat->Bool
 | [],_=>false
 | x::l,i=>(x==i)||litB l i
theorem litB_nil(i:Nat):litB [] i=false:=rfl
theorem litB_cons(x:Nat)(l:List Nat)(i:Nat):litB (x::l) i=((x==i)||litB l i):=rfl
section
variable {x:Cx} {g:Gh} {σ:St} {a:Act} {w:World}
def yS(σ:St)(m:Nat)(c:D):Option (Prop×St):=match idC c with
 | none=>some (True,σ)
 | some id=>match σ.b id with
  | some (.box _)=>match foldB σ id with
   | some (ob,ds,σ')=>some (ob,if m=2 then σ'.fr id (.box ds) else σ')
   | none=>none
  | some (.arr e k rows)=>some (True,if m=2 then σ.fr id (.arr e k rows) else σ)
  | _=>none
def vM(m:Nat):List D->St->Option (Prop×St)
 | [],σ=>some (True,σ)
 | c::l,σ=>match yS σ m c with
  | some (o1,σ1)=>match vM m l σ1 with
   | some (o2,σ2)=>some (o1/\o2,σ2)
   | none=>none
  | none=>none
def wu(md:List Nat):Nat->List Operand->St->Option (Prop×St)
 | _,[],σ=>some (True,σ)
 | j,z::l,σ=>if md.getD j 0=0 then wu md (j+1) l σ else match vM (md.getD j 0) (zr (xz (ev σ z))) σ with
  | some (o1,σ1)=>match wu md (j+1) l σ1 with
   | some (o2,σ2)=>some (o1/\o2,σ2)
   | none=>none
  | none=>none
theorem foldB_box{σ σ':St}{id:Nat}{ob:Prop}{ds:List D}(h:foldB σ id=some (ob,ds,σ')):σ'.b id=some (.box ds)/\ds.all wt=true:=by
 unfold foldB at h
 split at h
 ·split at h
  ·rename_i hf
   injection h with h;injection h with e1 e2;injection e2 with e2 e3
   subst e2 e3;exact ⟨by simp [St.setB],fdL_deep hf⟩
  ·cases h
 ·cases h
theorem prepC_ok{σ':St}{m:Nat}{c:D}{ob:Prop}(h:Rel x g σ a w)(hf:yS σ m c=some (ob,σ'))(ho:ob):∃ g',Rel x g' σ' a w:=by
 unfold yS at hf
 split at hf
 ·injection hf with hf;injection hf with e1 e2;subst e2;exact ⟨g,h⟩
 ·rename_i id hid
  split at hf
  ·split at hf
   ·rename_i ob' ds σ1 h1
    injection hf with hf;injection hf with e1 e2
    subst e1 e2;obtain ⟨g1,q1⟩:=h.foldB h1 ho;split
    ·obtain ⟨q2,q3⟩:=foldB_box h1
     exact q1.freeze id (.box ds) q2 q3
    ·exact ⟨g1,q1⟩
   ·cases hf
  ·rename_i e k rows hb
   injection hf with hf;injection hf with e1 e2
   subst e2;split
   ·exact h.freeze id _ hb rfl
   ·exact ⟨g,h⟩
  ·cases hf
theorem xbE{m:Nat}:∀ (l:List D) {g:Gh} {σ σ':St} {ob:Prop},Rel x g σ a w->vM m l σ=some (ob,σ')->ob->∃ g',Rel x g' σ' a w
 | [],g,σ,σ',ob,h,hf,ho=>by injection hf with hf;injection hf with e1 e2;subst e2;exact ⟨g,h⟩
 | c::l,g,σ,σ',ob,h,hf,ho=>by
  unfold vM at hf
  split at hf
  ·rename_i o1 σ1 h1
   split at hf
   ·rename_i o2 σ2 h2
    injection hf with hf;injection hf with e1 e2
    subst e1 e2;obtain ⟨g1,q1⟩:=prepC_ok h h1 ho.1;exact xbE l q1 h2 ho.2
   ·cases hf
  ·cases hf
theorem UT{md:List Nat}:∀ (l:List Operand) (j:Nat) {g:Gh} {σ σ':St} {ob:Prop},Rel x g σ a w->wu md j l σ=some (ob,σ')->ob->∃ g',Rel x g' σ' a w
 | [],j,g,σ,σ',ob,h,hf,ho=>by injection hf with hf;injection hf with e1 e2;subst e2;exact ⟨g,h⟩
 | z::l,j,g,σ,σ',ob,h,hf,ho=>by
  unfold wu at hf
  split at hf
  ·exact UT l (j+1) h hf ho
  ·split at hf
   ·rename_i o1 σ1 h1
    split at hf
    ·rename_i o2 σ2 h2
     injection hf with hf;injection hf with e1 e2
     subst e1 e2;obtain ⟨g1,q1⟩:=xbE _ h h1 ho.1;exact UT l (j+1) q1 h2 ho.2
    ·cases hf
   ·cases hf
def reop:List Gv->St->Option (Prop×St)
 | [],σ=>some (True,σ)
 | (i,_,_)::r,σ=>match σ.b i with
  | some (.box row)=>match reop r (σ.unfB i row) with
   | some (o,σ')=>some ((row.all wt=true/\i<1000000)/\o,σ')
   | none=>none
  | _=>reop r σ
theorem V8:∀ (l:List Gv) {g:Gh} {σ σ':St} {ob:Prop},Rel x g σ a w->reop l σ=some (ob,σ')->ob->∃ g',Rel x g' σ' a w
 | [],g,σ,σ',ob,h,hf,ho=>by injection hf with hf;injection hf with e1 e2;subst e2;exact ⟨g,h⟩
 | (i,j,l')::l,g,σ,σ',ob,h,hf,ho=>by
  unfold reop at hf
  split at hf
  ·rename_i row hb
   split at hf
   ·rename_i o σ1 h1
    injection hf with hf;injection hf with e1 e2
    subst e1 e2;obtain ⟨g1,q1⟩:=h.unfB hb ho.1.1 ho.1.2;exact V8 l q1 h1 ho.2
   ·cases hf
  ·exact V8 l h hf ho
end
def XQ(σ:St):List Operand->Option (Prop×List D)
 | []=>some (True,[])
 | z::l=>match xz (ev σ z),XQ σ l with
  | y,some (ob,ys)=>some (oblT (ev σ z)/\wt y=true/\ob,y::ys)
  | _,none=>none
def aopF(σ:St):Op->Option (Prop×D)
 | .makeFunc (.func f) first caps=>match first.toList,XQ σ caps.toList with
  | [],some (ob,ys)=>some (ob,.fn f ys)
  | _,_=>none
 | _=>none
theorem RE.deep{g:Gh}{w:World}{y:D}{v:Value}(h:RE g w y v)(hd:wt y=true):Rep g.S g.up w none y v:=by
 cases y<;>first|exact h|cases hd
theorem xaG{x:Cx}{σ:St}{g:Gh}{a:Act}{w:World}(hr:Rel x g σ a w):∀ (l:List Operand) (ob:Prop) (ys:List D),XQ σ l=some (ob,ys)->ob->ys.length=l.length/\∀ (j:Nat) (d:D) (u:Value),ys[j]?=some d->(l.map a.eval)[j]?=some u->Rep g.S g.up w none d u
 | [],ob,ys,h,ho=>by injection h with h;injection h with e1 e2;subst e2;exact ⟨rfl,fun j d u q=>by simp at q⟩
 | z::l,ob,ys,h,ho=>by
  unfold XQ at h
  split at h
  ·rename_i ob' ys' hl
   injection h with h;injection h with e1 e2
   subst e1 e2;have h1:=(zP (Xj hr z) ho.1).deep ho.2.1;obtain ⟨i1,i2⟩:=xaG hr l ob' ys' hl ho.2.2;refine ⟨by simp [i1],fun j d u q r=>?_⟩
   cases j with
   | zero=>simp at q r;subst q r;exact h1
   | succ j=>exact i2 j d u (by simpa using q) (by simpa using r)
  ·cases h
theorem aopF_ok{x:Cx}{σ:St}{o:Oper}{ob:Prop}{y:D}(h:aopF σ o.op=some (ob,y))(ho:ob){g:Gh}{a:Act}{w:World}(hr:Rel x g σ a w) :
  ∃ r,(execOp a.eval o).run x.P w=.ok (.value r) w/\RT g w y r:=by
 unfold aopF at h
 split at h
 ·rename_i f first caps hop
  split at h
  ·rename_i ob' ys h1 h2
   injection h with h;injection h with e1 e2
   subst e1 e2;have hf:first=#[]:=Array.ext' h1
   subst hf;obtain ⟨c1,c2⟩:=xaG hr _ _ _ h2 ho;have hval:(caps.map a.eval)=((List.range ys.length).map fun j=>(caps.toList.map a.eval).getD j undef).toArray:=by
    apply Array.ext';rw [Array.toList_map];apply List.ext_getElem?;intro j;rcases Nat.lt_or_ge j ys.length with q|q
    ·rw [List.getElem?_map (l:=List.range ys.length),List.getElem?_range q,Option.map_some,List.getD_eq_getElem?_getD]
     have hj:j<(caps.toList.map a.eval).length:=by rw [List.length_map,<- c1];exact q
     rw [List.getElem?_eq_getElem hj];rfl
    ·rw [List.getElem?_eq_none (by rw [List.length_map,<- c1];exact q),List.getElem?_eq_none (by simpa using q)]
   refine ⟨.func (.func f) #[] (caps.map a.eval),?_,?_⟩
   ·simp only [execOp,hop,Instr.makeFunc,Sem.run_bind,Sem.run_pure,Result.andThen_ok,Array.map_empty]
   ·rw [hval]
    refine Rep.rt (Rep.fn _ fun j d hj=>?_)
    have hlt:j<(caps.toList.map a.eval).length:=by rw [List.length_map,<- c1];exact (List.getElem?_eq_some_iff.1 hj).1
    have:=c2 j d _ hj (List.getElem?_eq_getElem hlt);rw [List.getD_eq_getElem?_getD,List.getElem?_eq_getElem hlt];exact this
  ·cases h
 ·cases h
def aopP(P:Program)(σ:St)(op:Op):Option (Prop×D):=match aop1 P σ op with
 | some r=>some r
 | none=>aopF σ op
theorem Wg{x:Cx}{σ:St}{o:Oper}{ob:Prop}{y:D}(h:aopP x.P σ o.op=some (ob,y))(ho:ob){g:Gh}{a:Act}{w:World}(hr:Rel x g σ a w) :
  ∃ r,(execOp a.eval o).run x.P w=.ok (.value r) w/\RT g w y r:=by
 unfold aopP at h
 split at h
 ·rename_i r h1
  injection h with h
  subst h;exact aop1_ok h1 ho hr
 ·exact aopF_ok h ho hr
def aopB(P:Program)(σ:St):Op->Option (Prop×D)
 | .buildSlice t len parts=>match tk P t with
  | .sl e k _ _=>match vF σ k 0 parts.toList with
   | some (ob,rows,raw)=>some (ob/\parts.toList.length=len/\len*k<=16777216/\idsC raw=[],.sl k rows)
   | none=>none
  | _=>none
 | .build t parts=>match uS P σ t parts with
  | some (ob,y)=>some (ob,y)
  | none=>none
 | _=>none
theorem VH{x:Cx}{σ:St}{o:Oper}{ob:Prop}{y:D}(h:aopB x.P σ o.op=some (ob,y))(ho:ob){g:Gh}{a:Act}{w:World}(hr:Rel x g σ a w) :
  ∃ r w' g',(execOp a.eval o).run x.P w=.ok (.value r) w'/\Rel x g' σ a w'/\RT g' w' y r:=by
 unfold aopB at h
 split at h
 ·rename_i t len parts hop
  split at h
  ·rename_i e k by_ z hk
   split at h
   ·rename_i ob' rows raw h'
    injection h with h;injection h with e1 e2
    subst e1 e2;obtain ⟨o1,o2,o3,o4⟩:=ho;obtain ⟨vals,r1,r2,r3,r4,r5⟩:=lit_run hr hk hop h' o1 o2 o3;have hold:∀ b,b<w.heap.size->(w.alloc (.cells vals.toArray e)).heap[b]?=w.heap[b]?:=fun b hb=>Below.heap_alloc _ _ _ hb
    let ga:Gh:=⟨g.β,g.κ,g.up,fun b=>g.S b\/b=w.heap.size⟩
    have ev:Ev (fun _=>True) (fun p=>p) pAll pAll g ga w (w.alloc (.cells vals.toArray e)):=⟨⟨fun b hb=>⟨.inl hb,hold b (hr.new b hb)⟩,fun b p hb _=>⟨hb,hold b (hr.own b p hb).1⟩,fun b p o _ _=>⟨trivial,rfl⟩⟩,fun i _=>⟨rfl,rfl⟩,fun i _=>⟨rfl,trivial,rfl⟩⟩
    have hR:=hr.ev ev ((Below.refl _ _).alloc (Nat.zero_le _) _) (fun b hb _=>hold b (by have:=hr.bel.size;omega)) (fun b hb hs=>hs.elim .inl (fun q=>by have:=hr.bel.size;omega)) (fun b hs=>by rw [zq];exact hs.elim (fun q=>by have:=hr.new b q;omega) (fun q=>by omega)) (fun b p hp=>by
     obtain ⟨q1,q2,q3⟩:=hr.own b p hp;exact ⟨by rw [zq];omega,q2,fun hs=>hs.elim q3 (fun q=>by omega)⟩)
    rw [sc_all] at hR
    have hcell:∀ (i j:Nat) (row:List D) (d:D),rows[i]?=some row->row[j]?=some d->∃ u,vals[i*k+j]?=some u/\Rep g.S g.up w none d u:=fun i j row d hi hj=>by
     obtain ⟨u,c,q1,q2,q3⟩:=r4 i j row d hi hj;rcases q3 with ⟨-,q3⟩|⟨id,q3,-⟩
     ·exact ⟨u,q1,q3⟩
     ·have:=vw q2 q3
      rw [o4] at this;cases this
    refine ⟨_,_,ga,r5,hR,Rep.rt ?_⟩;refine Rep.sl (fun i j=>vals.getD (i*k+j) undef) (Nat.le_refl _) r1 r3 (fun i j row d hi hj=>⟨.inr rfl,?_⟩) (fun i j row d hi hj=>?_)
    ·obtain ⟨u,q1,-⟩:=hcell i j row d hi hj
     rw [ym q1];simp only [World.cell?,Ud,Nat.zero_add];rw [if_neg (by simp)]
     simpa using q1
    ·obtain ⟨u,q1,q2⟩:=hcell i j row d hi hj
     rw [ym q1];exact Rep.move ev.toMv q2 (fun q hq=>by cases hq)
   ·cases h
  ·cases h
 ·rename_i t parts hop
  split at h
  ·rename_i ob' y' h'
   injection h with h;injection h with e1 e2
   subst e1 e2;obtain ⟨r,r1,r2⟩:=Ql hr h' ho;refine ⟨r,w,g,?_,hr,r2.rt⟩;simp only [execOp,hop,Sem.run_bind,r1];rfl
  ·cases h
 ·cases h
def gdT(c:Bool):D->D
 | .mb c' x=>.mb (c&&c') x
 | .tup _=>.un
 | x=>.mb c x
theorem vt{g:Gh}{w:World}{y:D}{v:Value}(h:RT g w y v):RT g w (gdT true y) v:=by
 cases y with
 | mb c x=>exact ⟨fun q=>h.1 (by simpa using q),fun q=>h.2 (by simpa using q)⟩
 | tup xs=>trivial
 | _=>simp only [RT] at h;exact ⟨fun _=>h,fun q=>(by cases q)⟩
theorem wI(g:Gh)(w:World)(y:D):RT g w (gdT false y) undef:=by
 cases y with
 | mb c x=>exact ⟨fun q=>(by cases q),fun _=>rfl⟩
 | tup xs=>trivial
 | _=>exact ⟨fun q=>(by cases q),fun _=>rfl⟩
def gvT(y:D)(want:Bool):Option Bool:=match y with
 | .s (.bool b)=>some (b==want)
 | .mb c (.s (.bool b))=>some (c&&(b==want))
 | .mb c .un=>match c with
  | false=>some false
  | true=>none
 | _=>none
def Wl(ops:Array Oper)(j:Nat):Option Tmp:=(ops[j]?).bind (·.dst)
def grd(ops:Array Oper)(σ:St)(j:Nat)(want:Bool):Option Bool:=match Wl ops j with
 | some t=>gvT (σ.t t) want
 | none=>none
def chk(N:Nat)(ops:Array Oper):Bool:=ops.toList.all fun o=>match o.dst with
 | some d=>decide (d<N)&&decide (d<999)
 | none=>true
theorem XA{N:Nat}{ops:Array Oper}(h:chk N ops=true){j:Nat}{o:Oper}(ho:ops[j]?=some o){d:Tmp}(hd:o.dst=some d):d<N/\d<999:=by
 have:=List.all_eq_true.1 h o (by rw [<- Array.getElem?_toList] at ho;exact List.mem_of_getElem? ho)
 rw [hd] at this
 simpa using this
theorem lt_isP{d:Nat}(h:d<999):isP d=false:=by
 unfold isP;simp only [Bool.and_eq_false_iff,decide_eq_false_iff_not];omega
theorem grd_ok{x:Cx}{g:Gh}{σ:St}{a:Act}{w:World}(hr:Rel x g σ a w){ops:Array Oper}(hc:chk x.N ops=true){j:Nat}{want c:Bool}(h:grd ops σ j want=some c) :
  (yielded ops a.tmps j==some want)=c:=by
 unfold grd at h
 split at h
 ·rename_i t ht
  have htN:t<a.tmps.size:=by
   rw [hr.sz];unfold Wl at ht
   cases ho:ops[j]? with
   | none=>rw [ho] at ht;cases ht
   | some o=>rw [ho] at ht;exact (XA hc ho ht).1
  have hy:yielded ops a.tmps j=match a.tmps.getD t undef with|.bool b=>some b|_=>none:=by
   unfold yielded;unfold Wl at ht
   rw [ht];simp only [Option.bind_some,Array.getElem?_eq_getElem htN];rw [show a.tmps.getD t undef=a.tmps[t] by rw [Array.getD_eq_getD_getElem?,Array.getElem?_eq_getElem htN];rfl]
   split<;>rename_i q
   ·injection q with q;rw [q]
   ·split
    ·rename_i b q';rw [q'] at q;exact absurd rfl (q b)
    ·rfl
  have h1:=hr.tm t;unfold gvT at h
  split at h
  ·rename_i b hb
   injection h with h
   rw [hb] at h1
   have hv:a.tmps.getD t undef=.bool b:=Rep.s_inv (show Rep g.S g.up w none (.s (.bool b)) _ from h1);rw [hy,hv,<- h];cases b<;>cases want<;>rfl
  ·rename_i c' b hb
   injection h with h
   rw [hb] at h1
   cases c' with
   | true=>
    have hv:a.tmps.getD t undef=.bool b:=Rep.s_inv (show Rep g.S g.up w none (.s (.bool b)) _ from h1.1 rfl);rw [hy,hv,<- h];cases b<;>cases want<;>rfl
   | false=>
    have hv:a.tmps.getD t undef=undef:=h1.2 rfl;rw [hy,hv,<- h];cases want<;>rfl
  ·rename_i c' hb
   rw [hb] at h1
   cases c' with
   | true=>cases h
   | false=>
    injection h with h
    have hv:a.tmps.getD t undef=undef:=h1.2 rfl;rw [hy,hv,<- h];cases want<;>rfl
  ·cases h
 ·cases h
def aFn(σ:St):Op->Option (Prop×FuncId×List D×List Operand)
 | .call ⟨.value fo,args,_⟩=>match xz (ev σ fo) with
  | .fn f caps=>some (oblT (ev σ fo),f,caps,args.toList)
  | _=>none
 | _=>none
def Wd(P:Program)(f:FuncId)(ars:List D)(bs:List Nat)(K:D->List D->Prop):Prop:=∃ Rs,FCon P f ars Rs/\∀ r outs,Rs r outs->(bs=[]\/(Pure r/\∀ o∈outs,Pure o))/\K r outs
def aft(σ:St)(dst:Option Tmp)(gs:List Gv)(K:St->Prop)(r:D)(outs:List D):Prop:=
 lenT r=true/\match reop gs ((σ.cal (dst.getD 999) gs r outs).put dst (shA (dst.getD 999) r)) with
  | some (ob,σ')=>ob/\K σ'
  | none=>False
def Wc(M:Md)(σ:St)(o:Oper)(K:St->Prop):Prop:=match aFn σ o.op with
 | some (_,f0,_,ops0)=>match wu (M.md f0) 0 ops0 σ with
  | some (o1,σ1)=>match aFn σ1 o.op with
   | some (o0,f,caps,ops)=>match wU σ1 (M.md f0) 0 ops with
    | some (o2,ars,gs,bs)=>o0/\o1/\o2/\nodB (gvN gs)=true/\nodB (gvK gs)=true/\bs.all (pOut (gvN gs))=true/\Wd M.P f (ars++caps) bs (aft σ1 o.dst gs K)
    | none=>False
   | none=>False
  | none=>False
 | none=>False
def Zq(P:Program)(σ:St)(o:Oper)(c:Bool)(wr:D->D)(K:St->Prop):Prop:=
 ∃ r,(c=true->∃ d ob f caps ops o2 ars bs r0,o.dst=some d/\aFn σ o.op=some (ob,f,caps,ops)/\ob/\wU σ [] 0 ops=some (o2,ars,[],bs)/\o2/\FCon P f (ars++caps) (fun r _=>r=r0)/\(bs=[]\/Pure r0)/\r=frA r0)/\K (σ.put o.dst (wr r))
theorem Qp{x:Cx}{σ:St}{o:Oper}{ob:Prop}{f:FuncId}{caps:List D}{ops:List Operand}(h:aFn σ o.op=some (ob,f,caps,ops))(ho:ob){g:Gh}{a:Act}{w:World}(hr:Rel x g σ a w) :
  ∃ us:List Value,us.length=caps.length/\(∀ (j:Nat) (d:D) (u:Value),caps[j]?=some d->us[j]?=some u->Rep g.S g.up w none d u)/\(execOp a.eval o).run x.P w=(callFunc f (ops.map a.eval++us).toArray).run x.P w:=by
 unfold aFn at h
 split at h
 ·rename_i fo args ts hop
  split at h
  ·rename_i f' caps' hf
   injection h with h;injection h with e1 e2;injection e2 with e2 e3;injection e3 with e3 e4
   subst e1 e2 e3 e4;have h1:=zP (Xj hr fo) ho;rw [hf] at h1
   have h1:Rep g.S g.up w none (.fn f' caps') (a.eval fo):=h1;generalize hv:a.eval fo=v at h1
   cases h1 with
   | fn us hus=>
    refine ⟨(List.range caps'.length).map us,by simp,fun j d u hd hu=>?_,?_⟩
    ·rw [List.getElem?_map,List.getElem?_range (List.getElem?_eq_some_iff.1 hd).1] at hu
     injection hu with hu
     subst hu;exact hus j d hd
    ·simp only [execOp,hop,resolve,Sem.run_bind,Deferred.ofValue,hv,Sem.run_pure,Result.andThen_ok,invoke,Array.empty_append]
     congr 2
     apply Array.ext'
     simp
  ·cases h
 ·cases h
theorem xaP{x:Cx}{g:Gh}{σ:St}{a:Act}{w:World}(h:Rel x g σ a w){md:List Nat}{ops:List Operand}{o2:Prop}{ars caps:List D}{gs:List Gv}{bs:List Nat}{us:List Value}(hf:wU σ md 0 ops=some (o2,ars,gs,bs))(ho:o2)(hnd:nodB (gvN gs)=true)(hul:us.length=caps.length)(hus:∀ (j:Nat) (d:D) (u:Value),caps[j]?=some d->us[j]?=some u->Rep g.S g.up w none d u) :
  (ops.map a.eval++us).length=(ars++caps).length/\(∀ (j:Nat) (d:D) (u:Value),(ars++caps)[j]?=some d->(ops.map a.eval++us)[j]?=some u->RA (calG g gs bs) w j d u) /\
   ∀ i j l,(i,j,l)∈gs->(∃ o,σ.b i=some o)/\∃ u,(ops.map a.eval++us)[j]?=some u/\((∃ k n,RC g w none (.bs i k n) (xH u l))\/(∃ o0,RC g w none (.bx i o0) (xH u l))):=by
 obtain ⟨a1,a2,a3⟩:=xaF h (gs:=gs) (bs:=bs) hnd ops 0 o2 ars gs bs hf ho (fun p hp=>hp) (fun i hi=>hi)
 refine ⟨by simp [a1,hul],fun j d u hd hu=>?_,fun i j l hi=>?_⟩
 ·rcases Nat.lt_or_ge j ars.length with q|q
  ·rw [List.getElem?_append_left q] at hd
   rw [List.getElem?_append_left (by rw [List.length_map];omega)] at hu
   have:=a2 j d u hd hu
   rwa [Nat.zero_add] at this
  ·rw [List.getElem?_append_right q] at hd
   rw [List.getElem?_append_right (by rw [List.length_map];omega),List.length_map,<- a1] at hu
   have hr:=hus _ d u hd hu;have m:Mv (fun _=>False) (fun p=>p) g (calG g gs bs) w w:=⟨fun b hb=>⟨.inl hb,rfl⟩,fun b p _ q=>q.elim,fun b p o _ q=>q.elim⟩
   have:=(Rep.move m hr (fun q hq=>by cases hq)).any (some (.par j 0))
   cases d<;>first|exact this|cases this
 ·obtain ⟨-,q1,u,q2,q3⟩:=a3 i j l hi
  rw [Nat.sub_zero] at q2
  refine ⟨q1,u,?_,q3⟩;rw [List.getElem?_append_left (List.getElem?_eq_some_iff.1 q2).1];exact q2
def gvCall(M:Md)(σ:St)(op:Op):Bool:=match aFn σ op with
 | some (_,f,_,_)=>match M.md f with
  | 1::_=>true
  | _=>false
 | none=>false
def astep(M:Md)(ops:Array Oper)(o:Oper)(σ:St)(K:St->Prop):Prop:=match o.guard with
 | none=>match aopP M.P σ o.op with
  | some (ob,y)=>ob/\K (σ.put o.dst y)
  | none=>match aop2 M.P σ o.dst o.op with
   | some (ob,y,σ')=>ob/\K (σ'.put o.dst y)
   | none=>match aop3 M.P σ o.dst o.op with
    | some (ob,y,σ')=>ob/\K (σ'.put o.dst y)
    | none=>Wc M σ o K
 | some (j,want)=>match grd ops σ j want with
  | none=>False
  | some c=>if (M.lit&&!c)=true then K (σ.put o.dst (gdT false .un)) else match aopP M.P σ o.op with
   | some (ob,y)=>(c=true->ob)/\K (σ.put o.dst (gdT c y))
   | none=>match aopB M.P σ o.op with
    | some (ob,y)=>(c=true->ob)/\K (σ.put o.dst (gdT c y))
    | none=>match gvCall M σ o.op with
     | true=>(c=true->Wc M σ o K)/\(c=false->K (σ.put o.dst (gdT false .un)))
     | false=>Zq M.P σ o c (gdT c) K
def aops(M:Md)(ops:Array Oper)(K:St->Prop):List Oper->St->Prop
 | [],σ=>K σ
 | o::rest,σ=>astep M ops o σ (aops M ops K rest)
theorem Uq{x:Cx}{σ:St}{o:Oper}{r:D}(h:∃ d ob f caps ops o2 ars bs r0,o.dst=some d/\aFn σ o.op=some (ob,f,caps,ops)/\ob/\wU σ [] 0 ops=some (o2,ars,[],bs)/\o2/\FCon x.P f (ars++caps) (fun r _=>r=r0)/\(bs=[]\/Pure r0)/\r=frA r0){g:Gh}{a:Act}{w:World}(hr:Rel x g σ a w){K:Act->World->Prop}{Q:Exit->Act->World->Prop}
  (hK:∀ v g' w',Rel x g' σ a w'->RT g' w' r v->K (a.put o.dst v) w'):o.wp x.P a w K Q:=by
 obtain ⟨d,ob,f,caps,ops,o2,ars,bs,r0,hdst,hcal,hob,harg,ho2,hF,hpu,rfl⟩:=h;obtain ⟨us,u1,u2,u3⟩:=Qp hcal hob hr;obtain ⟨c1,c2,-⟩:=xaP hr harg ho2 rfl u1 u2;unfold Oper.wp;rw [u3,hF.ent,Oper.upon_enter];refine (hF.run w (calG g [] bs) _ (hr.cal1 _ _) (hr.cal2 (fun b _=>by simp [gvN])) c1 c2).mono ?_
 rintro e w' ⟨v,g',r,outs,rfl,b1,b2,b3,b4,b5,b6,rfl,b7,-⟩
 obtain ⟨ga,q1,q2⟩:=hr.callQ b1 b2 b3 b4 b5 b6 b7 hpu;exact hK v ga w' q1 q2
theorem VQ{M:Md}{x:Cx}(hx:x.P=M.P){σ:St}{o:Oper}{K0:St->Prop}(h:Wc M σ o K0)(hd:∀ d,o.dst=some d->d<x.N/\d<999){g:Gh}{a:Act}{w:World}(hr:Rel x g σ a w){K:Act->World->Prop}{Q:Exit->Act->World->Prop}
  (hK:∀ σ' g' a' w',Rel x g' σ' a' w'->K0 σ'->K a' w'):o.wp x.P a w K Q:=by
 unfold Wc at h
 split at h
 ·split at h
  ·rename_i o1 σ1 hprep
   split at h
   ·rename_i o0 f caps ops hcal
    split at h
    ·rename_i o2 ars gs bs harg
     obtain ⟨h0,h1,h2,h3,h4,h5,Rs,hF,hKK⟩:=h;obtain ⟨g1,hr1⟩:=UT _ 0 hr hprep h1;obtain ⟨us,u1,u2,u3⟩:=Qp hcal h0 hr1;obtain ⟨c1,c2,c3⟩:=xaP hr1 harg h2 h3 u1 u2;have hdis:∀ b∈bs,b∉gvN gs:=fun b hb hm=>xy (List.all_eq_true.1 h5 b hb) b hm rfl
     unfold Oper.wp;rw [<- hx] at hF
     rw [u3,hF.ent,Oper.upon_enter];refine (hF.run w (calG g1 gs bs) _ (hr1.cal1 _ _) (hr1.cal2 hdis) c1 c2).mono ?_
     rintro e w' ⟨v,g',r,outs,rfl,b1,b2,b3,b4,b5,b6,b7,b8,b9⟩
     obtain ⟨hpu,hlen,hre⟩:=hKK r outs b7;have hdd:o.dst.getD 999<1000:=by
      cases hdst:o.dst with
      | none=>simp
      | some d=>exact Nat.lt_of_lt_of_le (hd d hdst).2 (by decide)
     obtain ⟨ga,q1,q2⟩:=hr1.call hdd h3 h4 hdis c3 b1 b2 b3 b4 b5 b6 b8 b9 hpu hlen;have q3:=q1.put q2 o.dst (fun d q=>(hd d q).1)
     split at hre
     ·rename_i ob σ' hro
      obtain ⟨gb,q4⟩:=V8 gs q3 hro hre.1;exact hK _ _ _ _ q4 hre.2
     ·exact hre.elim
    ·exact h.elim
   ·exact h.elim
  ·exact h.elim
 ·exact h.elim
theorem YJ{M:Md}{x:Cx}(hx:x.P=M.P){ops:Array Oper}(hc:chk x.N ops=true){K:St->Prop}{Q:Exit->Act->World->Prop}(hQ:∀ σ' g' a' w',Rel x g' σ' a' w'->K σ'->Q .normal a' w') :
  ∀ (l:List Oper),(∀ o∈l,∀ d,o.dst=some d->d<x.N/\d<999)->∀ (σ:St) (g:Gh) (a:Act) (w:World),Rel x g σ a w->aops M ops K l σ->wpList x.P ops Q l a w
 | [],_,σ,g,a,w,hr,h=>hQ σ g a w hr h
 | o::rest,hl,σ,g,a,w,hr,h=>by
  have ih:=YJ hx hc hQ rest (fun o' ho'=>hl o' (List.mem_cons_of_mem _ ho'))
  have hd:=hl o (by simp)
  have hdN:∀ d,o.dst=some d->d<x.N:=fun d q=>(hd d q).1
  simp only [aops,astep] at h
  unfold wpList;split at h
  ·rename_i hgd
   rw [if_pos (by simp [Region.wanted,hgd])]
   left
   split at h
   ·rename_i ob y hop
    rw [<- hx] at hop
    obtain ⟨r,r1,r2⟩:=Wg hop h.1 hr;unfold Oper.wp;rw [r1,Oper.upon_value];exact ih _ _ _ _ (hr.put r2 o.dst hdN) h.2
   ·split at h
    ·rename_i ob y σ' hop
     rw [<- hx] at hop
     obtain ⟨w',g',r0,r1⟩:=aop2_ok hop h.1 (fun d q=>lt_isP (hd d q).2) hr
     unfold Oper.wp;rcases r1 with ⟨r,r1,r2⟩|⟨r1,r2⟩
     ·rw [r1,Oper.upon_value]
      exact ih _ _ _ _ (r0.put r2 o.dst hdN) h.2
     ·rw [r1,Oper.upon_skip]
      exact ih _ _ _ _ (r0.put (y:=y) (v:=undef) (by rw [r2];trivial) o.dst hdN) h.2
    ·split at h
     ·rename_i ob y σ' hop
      rw [<- hx] at hop
      obtain ⟨w',g',r0,r,r1,r2⟩:=aop3_ok hop h.1 (fun d q=>lt_isP (hd d q).2) hr
      unfold Oper.wp;rw [r1,Oper.upon_value];exact ih _ _ _ _ (r0.put r2 o.dst hdN) h.2
     ·exact VQ hx h hd hr (fun σ' g' a' w' h1 h2=>ih σ' g' a' w' h1 h2)
  ·rename_i j want hgd
   split at h
   ·exact h.elim
   ·rename_i c hcg
    have hw:Region.wanted o (yielded ops a.tmps)=c:=by
     simp only [Region.wanted,hgd];exact grd_ok hr hc hcg
    split at h
    ·rename_i hl
     have hcf:c=false:=by
      cases c with
      | true=>simp at hl
      | false=>rfl
     subst hcf;rw [if_neg (by rw [hw];simp)]
     exact ih _ _ _ _ (hr.put (wI g w _) o.dst hdN) h
    ·cases c with
     | true=>
      rw [if_pos hw]
      left
      split at h
      ·rename_i ob y hop
       rw [<- hx] at hop
       obtain ⟨r,r1,r2⟩:=Wg hop (h.1 rfl) hr;unfold Oper.wp;rw [r1,Oper.upon_value];exact ih _ _ _ _ (hr.put (vt r2) o.dst hdN) h.2
      ·split at h
       ·rename_i ob y hop
        rw [<- hx] at hop
        obtain ⟨r,w',g',r1,r2,r3⟩:=VH hop (h.1 rfl) hr;unfold Oper.wp;rw [r1,Oper.upon_value];exact ih _ _ _ _ (r2.put (vt r3) o.dst hdN) h.2
       ·split at h
        ·exact VQ hx (h.1 rfl) hd hr (fun σ' g' a' w' h1 h2=>ih σ' g' a' w' h1 h2)
        ·obtain ⟨r0,hF,hK⟩:=h
         rw [<- hx] at hF
         exact Uq (hF rfl) hr (fun v g' w' h1 h2=>ih _ _ _ _ (h1.put (vt h2) o.dst hdN) hK)
     | false=>
      rw [if_neg (by rw [hw];simp)]
      split at h
      ·exact ih _ _ _ _ (hr.put (wI g w _) o.dst hdN) h.2
      ·split at h
       ·exact ih _ _ _ _ (hr.put (wI g w _) o.dst hdN) h.2
       ·split at h
        ·exact ih _ _ _ _ (hr.put (wI g w _) o.dst hdN) (h.2 rfl)
        ·obtain ⟨r0,-,hK⟩:=h
         exact ih _ _ _ _ (hr.put (wI g w _) o.dst hdN) hK
section
variable {P:Program} {N:Nat} {ops:Array Oper} {K:St->Prop}
def Yl(P:Program)(N:Nat)(ops:Array Oper)(o:Oper)(σ:St)(y:D):Prop:=
 ∀ σ':St,(∀ t∈o.looksAt ops,σ'.t t=σ.t t)->σ'.b=σ.b->∀ (x:Cx) (g:Gh) (a:Act) (w:World),x.P=P->x.N=N->Rel x g σ' a w ->
  (Region.wanted o (yielded ops a.tmps)=true/\∀ (K:Act->World->Prop) (Q:Exit->Act->World->Prop),(∀ g' a' w',Rel x g' (σ'.put o.dst y) a' w'->K a' w')->o.wp P a w K Q) \/
  (Region.wanted o (yielded ops a.tmps)=false/\Rel x g (σ'.put o.dst y) (a.put o.dst undef) w)
theorem St.put_comm(σ:St){d e:Option Tmp}(u v:D)(h:∀ i,d=some i->e≠some i):(σ.put d u).put e v=(σ.put e v).put d u:=by
 cases d with
 | none=>rfl
 | some d=>
  cases e with
  | none=>rfl
  | some e=>
   have hne:d≠e:=fun q=>h d rfl (q ▸ rfl)
   simp only [St.put]
   congr 1
   funext i
   by_cases h1:i=e
   ·simp [h1,Ne.symm hne]
   ·simp [h1]
theorem St.put_other(σ:St){d:Option Tmp}(u:D){l:List Tmp}(h:∀ i,d=some i->i∉l):∀ t∈l,(σ.put d u).t t=σ.t t:=by
 intro t ht;cases d with
 | none=>rfl
 | some d=>
  have:t≠d:=fun q=>h d rfl (q ▸ ht)
  simp [St.put,this]
theorem St.put_b(σ:St)(d:Option Tmp)(u:D):(σ.put d u).b=σ.b:=by cases d<;>rfl
theorem Yl.put{o:Oper}{σ:St}{y:D}(h:Yl P N ops o σ y){d:Option Tmp}(u:D)(hd:∀ i,d=some i->i∉o.looksAt ops):Yl P N ops o (σ.put d u) y:=by
 intro σ' h1 h2;exact h σ' (fun t ht=>(h1 t ht).trans (St.put_other σ u hd t ht)) (h2.trans (St.put_b _ _ _))
theorem Yl.unput{o:Oper}{σ:St}{y:D}{d:Option Tmp}{u:D}(h:Yl P N ops o (σ.put d u) y)(hd:∀ i,d=some i->i∉o.looksAt ops):Yl P N ops o σ y:=by
 intro σ' h1 h2;exact h σ' (fun t ht=>(h1 t ht).trans (St.put_other σ u hd t ht).symm) (h2.trans (St.put_b _ _ _).symm)
end
theorem ev_congr{σ σ':St}{z:Operand}(h:∀ t,z=.tmp t->σ'.t t=σ.t t):ev σ' z=ev σ z:=by
 cases z with
 | tmp t=>exact h t rfl
 | const v=>rfl
 | global _=>rfl
 | func _=>rfl
theorem z7{ops:Array Oper}{o:Oper}{σ σ':St}(h:∀ t∈o.looksAt ops,σ'.t t=σ.t t):∀ z∈o.op.operands,ev σ' z=ev σ z:=fun z hz=>
 ev_congr fun t ht=>h t (by
  subst ht;exact List.mem_append_left _ (List.mem_filterMap.2 ⟨.tmp t,by simpa using hz,rfl⟩))
theorem xbX{P:Program}{σ σ':St}(hb:σ'.b=σ.b)(t:TypeId)(x:D):Xa P σ' t x=Xa P σ t x:=by unfold Xa;rw [hb]
theorem xck{P:Program}{σ σ':St}(op:Op)(h:∀ z∈op.operands,ev σ' z=ev σ z)(hb:σ'.b=σ.b):aop1 P σ' op=aop1 P σ op:=by
 cases op<;>simp only [Op.operands] at h<;>simp only [aop1]
 case slice t x lo hi mx=>
  cases mx with
  | some _=>rfl
  | none=>
   have hx:=h x (by simp)
   cases lo<;>cases hi<;>simp_all
 case call c=>
  obtain ⟨callee,args,ts⟩:=c;cases callee with
  | builtin b=>
   cases b<;>try rfl
   simp only [aop1];cases ha:args.toList with
   | nil=>rfl
   | cons z l=>
    cases l with
    | nil=>
     cases ht:ts.toList with
     | nil=>rfl
     | cons t l'=>
      cases l' with
      | nil=>dsimp only;rw [h z (by simp [Call.operands,<- Array.mem_toList_iff,ha])]
      | cons _ _=>rfl
    | cons _ _=>rfl
  | value _=>rfl
  | invoke _ _=>rfl
 all_goals (first|rfl|(simp only [xbX hb];simp_all;done)|(simp_all;done))
theorem WM{σ σ':St}:∀ (l:List Operand),(∀ z∈l,ev σ' z=ev σ z)->XQ σ' l=XQ σ l
 | [],_=>rfl
 | z::l,h=>by
  unfold XQ;rw [h z (by simp),WM l (fun y hy=>h y (by simp [hy]))]
theorem U6{P:Program}{σ σ':St}(op:Op)(h:∀ z∈op.operands,ev σ' z=ev σ z)(hb:σ'.b=σ.b):aopP P σ' op=aopP P σ op:=by
 unfold aopP;rw [xck op h hb];split
 ·rfl
 ·unfold aopF
  cases op<;>try rfl
  rename_i fn first caps _
  cases fn<;>try rfl
  simp only [Op.operands] at h
  try dsimp only
  rw [WM _ (fun z hz=>h z (by simp;right;simpa using hz))]
theorem grd_congr{ops:Array Oper}{o:Oper}{σ σ':St}(h:∀ t∈o.looksAt ops,σ'.t t=σ.t t){j:Nat}{want:Bool}(hg:o.guard=some (j,want)):grd ops σ' j want=grd ops σ j want:=by
 unfold grd;cases hd:Wl ops j with
 | none=>rfl
 | some t=>dsimp only;rw [h t (by unfold Wl at hd;simp [Oper.looksAt,hg,hd])]
section
variable {σ σ':St} (hb:σ'.b=σ.b)
include hb
theorem fdC_b(c:D):fdC σ' c=fdC σ c:=by cases c<;>first|rfl|simp only [fdC,hb]
theorem Wm:∀ l:List D,fdL σ' l=fdL σ l
 | []=>rfl
 | c::l=>by unfold fdL;rw [fdC_b hb,Wm l]
theorem fdB_b(c:D):fdB σ' c=fdB σ c:=by
 cases c<;>first|(simp only [fdB];exact fdC_b hb _)|(simp only [fdB,hb,Wm hb];done)
theorem idB_b(c:D):idB σ' c=idB σ c:=by cases c<;>first|rfl|simp only [idB,hb]
theorem argC_b(m:Nat)(c:D):argC σ' m c=argC σ m c:=by unfold argC;rw [fdC_b hb,fdB_b hb]
theorem argL_b(m:Nat):∀ l:List D,argL σ' m l=argL σ m l
 | []=>rfl
 | c::l=>by unfold argL;rw [argC_b hb,argL_b m l]
theorem argD_b(m:Nat)(c:D):argD σ' m c=argD σ m c:=by cases c<;>first|rfl|(simp only [argD];exact argC_b hb m _)|(simp only [argD,argL_b hb];done)
theorem bsL_b:∀ l:List D,bsL σ' l=bsL σ l
 | []=>rfl
 | c::l=>by unfold bsL;rw [idB_b hb,bsL_b l]
theorem vE(md:List Nat):∀ (l:List Operand) (j:Nat),(∀ z∈l,ev σ' z=ev σ z)->wU σ' md j l=wU σ md j l
 | [],_,_=>rfl
 | z::l,j,h=>by
  unfold wU;rw [h z (by simp),argD_b hb,bsL_b hb,vE md l (j+1) (fun y hy=>h y (by simp [hy]))]
theorem Yn{k:Nat}:∀ (l:List (Nat×Operand)) (j:Nat),(∀ z∈l,ev σ' z.2=ev σ z.2)->vF σ' k j l=vF σ k j l
 | [],_,_=>rfl
 | (i,z)::l,j,h=>by
  unfold vF;rw [h (i,z) (by simp),Yn l (j+1) (fun y hy=>h y (by simp [hy]))]
  simp only [Wm hb]
omit hb in
theorem Ym{fs:List (Nat×Nat×Bool)}:∀ (l:List (Nat×Operand)) (cells:List D),(∀ z∈l,ev σ' z.2=ev σ z.2)->XR σ' fs cells l=XR σ fs cells l
 | [],_,_=>rfl
 | (i,z)::l,cells,h=>by
  have e:ev σ' z=ev σ z:=h (i,z) (by simp)
  unfold XR;rw [e];cases fs[i]? with
  | none=>rfl
  | some p=>
   obtain ⟨off,sz,ag⟩:=p;cases vS (xz (ev σ z)) with
   | none=>rfl
   | some xs=>simp only [Ym l _ (fun y hy=>h y (by simp [hy]))]
theorem U5{P:Program}(op:Op)(h:∀ z∈op.operands,ev σ' z=ev σ z):aopB P σ' op=aopB P σ op:=by
 unfold aopB;cases op<;>try rfl
 ·rename_i t parts
  simp only [Op.operands] at h
  simp only [uS];cases tk P t<;>try rfl
  simp only;rw [Ym _ _ (fun z hz=>h z.2 (by simp;exact ⟨z.1,by simpa using hz⟩))]
 ·rename_i t len parts
  simp only [Op.operands] at h
  dsimp only;cases tk P t<;>try rfl
  dsimp only;rw [Yn hb _ _ (fun z hz=>h z.2 (by simp;exact ⟨z.1,by simpa using hz⟩))]
omit hb in
theorem XS(op:Op)(h:∀ z∈op.operands,ev σ' z=ev σ z):aFn σ' op=aFn σ op:=by
 unfold aFn;cases op<;>try rfl
 rename_i c;obtain ⟨callee,args,ts⟩:=c;cases callee<;>try rfl
 rename_i fo;simp only [Op.operands,Call.operands] at h
 dsimp only;rw [h fo (by simp)]
theorem srcK_b(k:Nat)(c:D):srcK σ' k c=srcK σ k c:=by cases c<;>first|rfl|simp only [srcK,hb]
end
theorem Wf{σ:St}{op:Op}{ob:Prop}{f:FuncId}{caps:List D}{l:List Operand}(h:aFn σ op=some (ob,f,caps,l)):∀ z∈l,z∈op.operands:=by
 unfold aFn at h
 split at h
 ·rename_i fo args ts
  split at h
  ·injection h with h;injection h with e1 e2;injection e2 with e2 e3;injection e3 with e3 e4
   subst e4;intro z hz;simp only [Op.operands,Call.operands]
   simp;right;simpa using hz
  ·cases h
 ·cases h
def Ef(θ:D->D)(B:Nat->Option Ob)(dst:Option Tmp)(Y:D)(σ:St):St:=(St.mk (fun i=>θ (σ.t i)) B).put dst Y
theorem Ef_put{θ:D->D}{B:Nat->Option Ob}{dst:Option Tmp}{Y:D}(σ:St)(d:Option Tmp)(z:D)(h:d≠none->d≠dst):Ef θ B dst Y (σ.put d z)=(Ef θ B dst Y σ).put d (θ z):=by
 cases d with
 | none=>rfl
 | some d=>
  have h:=h (by simp)
  cases dst with
  | none=>
   simp only [Ef,St.put]
   congr 1
   funext i
   by_cases e:i=d<;>simp [e]
  | some e'=>
   have hne:d≠e':=fun q=>h (by rw [q])
   simp only [Ef,St.put]
   congr 1
   funext i
   by_cases e1:i=e'
   ·subst e1;simp [Ne.symm hne]
   ·by_cases e:i=d<;>simp [e,e1,hne]
def Shp{α:Type}(σ:St)(R:St->Prop)(F:St->Option (α×St))(a:α):Prop:=∃ (θ:D->D) (B:Nat->Option Ob),∀ τ:St,τ.b=σ.b->R τ->F τ=some (a,⟨fun i=>θ (τ.t i),B⟩)
theorem foldB_shp{σ σ':St}{id:Nat}{ob:Prop}{ds:List D}(h:foldB σ id=some (ob,ds,σ')):∃ (θ:D->D) (B:Nat->Option Ob),∀ τ:St,τ.b=σ.b->foldB τ id=some (ob,ds,⟨fun i=>θ (τ.t i),B⟩):=by
 unfold foldB at h
 split at h
 ·rename_i row hb
  split at h
  ·rename_i ob' ds' hf
   injection h with h;injection h with e1 e2;injection e2 with e2 e3
   subst e1 e2 e3;refine ⟨scT (pOut (idsC row)),((σ.sc (pOut (idsC row)) (pOut (idsC row))).setB id (.box ds')).b,fun τ hτ=>?_⟩
   unfold foldB;simp only [hτ,hb,Wm hτ,hf]
   congr 3
   unfold St.setB St.sc;simp only [hτ]
  ·cases h
 ·cases h
theorem prepC_shp{σ σ':St}{m:Nat}{c:D}{ob:Prop}(h:yS σ m c=some (ob,σ')):Shp σ (fun _=>True) (fun τ=>yS τ m c) ob:=by
 have same:yS σ m c=some (ob,σ)->(∀ τ:St,τ.b=σ.b->∃ o,yS τ m c=some (o,τ)/\o=ob)->Shp σ (fun _=>True) (fun τ=>yS τ m c) ob:=fun h1 h2=>by
  refine ⟨fun y=>y,σ.b,fun τ hτ _=>?_⟩
  obtain ⟨o,q1,rfl⟩:=h2 τ hτ;show yS τ m c=_;rw [q1,<- hτ]
 unfold yS at h
 split at h
 ·rename_i hid
  injection h with h;injection h with e1 e2;subst e1 e2
  exact same (by unfold yS;rw [hid]) (fun τ hτ=>⟨True,by unfold yS;rw [hid],rfl⟩)
 ·rename_i id hid
  split at h
  ·rename_i row hb
   split at h
   ·rename_i ob' ds σ1 hf
    injection h with h;injection h with e1 e2
    subst e1;obtain ⟨θ,B,hs⟩:=foldB_shp hf
    by_cases hm:m=2
    ·refine ⟨fun y=>frT id (.box ds) (θ y),fun i=>if i=id then none else (B i).map (frO id (.box ds)),fun τ hτ _=>?_⟩
     show yS τ m c=_;unfold yS;simp only [hid,hτ,hb,hs τ hτ,if_pos hm]
     rfl
    ·refine ⟨θ,B,fun τ hτ _=>?_⟩
     show yS τ m c=_;unfold yS;simp only [hid,hτ,hb,hs τ hτ,if_neg hm]
   ·cases h
  ·rename_i e k rows hb
   injection h with h;injection h with e1 e2
   subst e1
   by_cases hm:m=2
   ·refine ⟨fun y=>frT id (.arr e k rows) y,fun i=>if i=id then none else (σ.b i).map (frO id (.arr e k rows)),fun τ hτ _=>?_⟩
    show yS τ m c=_;unfold yS;simp only [hid,hτ,hb,if_pos hm];unfold St.fr;simp only [hτ]
   ·rw [if_neg hm] at e2
    subst e2;exact same (by unfold yS;simp only [hid,hb,if_neg hm]) (fun τ hτ=>⟨True,by unfold yS;simp only [hid,hτ,hb,if_neg hm],rfl⟩)
  ·cases h
theorem xad{m:Nat}:∀ (l:List D) {σ σ':St} {ob:Prop},vM m l σ=some (ob,σ')->Shp σ (fun _=>True) (fun τ=>vM m l τ) ob
 | [],σ,σ',ob,h=>by
  injection h with h;injection h with e1 e2;subst e1 e2
  exact ⟨fun y=>y,σ.b,fun τ hτ _=>by show some (True,τ)=_;rw [<- hτ]⟩
 | c::l,σ,σ',ob,h=>by
  unfold vM at h
  split at h
  ·rename_i o1 σ1 h1
   split at h
   ·rename_i o2 σ2 h2
    injection h with h;injection h with e1 e2
    subst e1 e2;obtain ⟨θ,B,hs⟩:=prepC_shp h1;have e:=hs σ rfl trivial;simp only [h1] at e
    injection e with e;injection e with _ e
    obtain ⟨θ2,B2,hs2⟩:=xad l h2;refine ⟨fun y=>θ2 (θ y),B2,fun τ hτ _=>?_⟩
    show vM m (c::l) τ=_;unfold vM;have q1:=hs τ hτ trivial;have q2:=hs2 ⟨fun i=>θ (τ.t i),B⟩ (by rw [e]) trivial
    simp only at q1 q2
    simp only [q1,q2]
   ·cases h
  ·cases h
theorem ev_th{σ τ:St}{θ:D->D}{B B':Nat->Option Ob}{z:Operand}(h:ev τ z=ev σ z):ev ⟨fun i=>θ (τ.t i),B⟩ z=ev ⟨fun i=>θ (σ.t i),B'⟩ z:=by
 cases z with
 | tmp t=>exact congrArg θ h
 | const v=>rfl
 | func f=>rfl
 | global _=>rfl
theorem Z5{md:List Nat}:∀ (l:List Operand) (j:Nat) {σ σ':St} {ob:Prop},wu md j l σ=some (ob,σ')->Shp σ (fun τ=>∀ z∈l,ev τ z=ev σ z) (fun τ=>wu md j l τ) ob
 | [],j,σ,σ',ob,h=>by
  injection h with h;injection h with e1 e2;subst e1 e2
  exact ⟨fun y=>y,σ.b,fun τ hτ _=>by show some (True,τ)=_;rw [<- hτ]⟩
 | z::l,j,σ,σ',ob,h=>by
  unfold wu at h
  split at h
  ·rename_i hm
   obtain ⟨θ,B,hs⟩:=Z5 l (j+1) h;refine ⟨θ,B,fun τ hτ hv=>?_⟩
   show wu md j (z::l) τ=_;unfold wu;rw [if_pos hm];exact hs τ hτ (fun y hy=>hv y (by simp [hy]))
  ·rename_i hm
   split at h
   ·rename_i o1 σ1 h1
    split at h
    ·rename_i o2 σ2 h2
     injection h with h;injection h with e1 e2
     subst e1 e2;obtain ⟨θ,B,hs⟩:=xad _ h1;have e:=hs σ rfl trivial;simp only [h1] at e
     injection e with e;injection e with _ e
     obtain ⟨θ2,B2,hs2⟩:=Z5 l (j+1) h2;refine ⟨fun y=>θ2 (θ y),B2,fun τ hτ hv=>?_⟩
     show wu md j (z::l) τ=_;unfold wu;rw [if_neg hm,hv z (by simp)]
     have q1:=hs τ hτ trivial;have q2:=hs2 ⟨fun i=>θ (τ.t i),B⟩ (by rw [e]) (fun y hy=>by rw [e];exact ev_th (hv y (by simp [hy])))
     simp only at q1 q2
     simp only [q1,q2]
    ·cases h
   ·cases h
theorem UV:∀ (l:List Gv) {σ σ':St} {ob:Prop},reop l σ=some (ob,σ')->Shp σ (fun _=>True) (fun τ=>reop l τ) ob
 | [],σ,σ',ob,h=>by
  injection h with h;injection h with e1 e2;subst e1 e2
  exact ⟨fun y=>y,σ.b,fun τ hτ _=>by show some (True,τ)=_;rw [<- hτ]⟩
 | (i,j,l')::l,σ,σ',ob,h=>by
  unfold reop at h
  split at h
  ·rename_i row hb
   split at h
   ·rename_i o σ1 h1
    injection h with h;injection h with e1 e2
    subst e1 e2;obtain ⟨θ,B,hs⟩:=UV l h1;refine ⟨fun y=>θ (scT (pUn i row) y),B,fun τ hτ _=>?_⟩
    show reop ((i,j,l')::l) τ=_;unfold reop;have q:=hs (τ.unfB i row) (by unfold St.unfB;simp only [hτ]) trivial
    simp only at q
    simp only [hτ,hb,q]
    rfl
   ·cases h
  ·rename_i hno
   obtain ⟨θ,B,hs⟩:=UV l h;refine ⟨θ,B,fun τ hτ _=>?_⟩
   show reop ((i,j,l')::l) τ=_;have q:=hs τ hτ trivial;unfold reop;rw [hτ];split
   ·rename_i row hb;exact absurd hb (hno row)
   ·exact q
def bnd(ops:Array Oper)(j i:Nat):Bool:=match ops[j]? with
 | some o=>o.after.any fun e=>Region.binds .any e&&e.on==i
 | none=>false
theorem YK{ops:Array Oper}{j i:Nat}(h:bnd ops j i=true):∃ o e,ops[j]?=some o/\e∈o.after/\Region.binds .any e=true/\e.on=i:=by
 unfold bnd at h
 split at h
 ·rename_i o ho
  obtain ⟨e,he,hb⟩:=Array.any_eq_true'.1 h;simp only [Bool.and_eq_true,beq_iff_eq] at hb
  exact ⟨o,e,ho,he,hb.1,hb.2⟩
 ·cases h
def ancB(ops:Array Oper)(m:Nat):Nat->Nat->Bool
 | 0,_=>false
 | f+1,i=>bnd ops m i||(List.range m).any fun k=>bnd ops k i&&ancB ops m f k
def Closed(ops:Array Oper)(listed:Array Bool):Prop:=∀ k o,ops[k]?=some o->listed.getD k false=true->∀ e∈o.after,Region.binds .any e=true->listed.getD e.on false=true
theorem YI{ops:Array Oper}{m:Nat}{listed:Array Bool}(hc:Closed ops listed)(hm:m∈Region.ready .any ops listed):∀ (f i:Nat),ancB ops m f i=true->listed.getD i false=true
 | 0,_,h=>by cases h
 | f+1,i,h=>by
  unfold ancB at h
  rcases Bool.or_eq_true_iff.1 h with h|h
  ·obtain ⟨o,e,ho,he,hb,rfl⟩:=YK h
   obtain ⟨-,o',ho',hall⟩:=mem_ready.1 hm;rw [ho] at ho';injection ho' with ho';subst ho'
   exact hall e he hb
  ·obtain ⟨k,-,hk⟩:=List.any_eq_true.1 h
   simp only [Bool.and_eq_true] at hk
   obtain ⟨o,e,ho,he,hb,rfl⟩:=YK hk.1;exact hc k o ho (YI hc hm f k hk.2) e he hb
theorem Xd{ops:Array Oper}{listed:Array Bool}(hc:Closed ops listed){j:Nat}(hj:j∈Region.ready .any ops listed):Closed ops (listed.setIfInBounds j true):=by
 intro k o ho hk e he hb;refine getD_set_true ?_
 by_cases hjk:j=k
 ·subst hjk
  obtain ⟨-,o',ho',hall⟩:=mem_ready.1 hj;rw [ho] at ho';injection ho' with ho';subst ho'
  exact hall e he hb
 ·rw [getD_set_ne false hjk] at hk
  exact hc k o ho hk e he hb
section
variable {P:Program} {N:Nat} {ops:Array Oper} {m:Nat} {E:St->St} {K:St->Prop}
def SoundP(P:Program)(N:Nat)(ops:Array Oper)(o:Oper)(E:St->St)(σ:St):Prop:=
 ∀ σ1:St,(∀ t∈o.looksAt ops,σ1.t t=σ.t t)->σ1.b=σ.b->∀ (x:Cx) (g:Gh) (a:Act) (w:World),x.P=P->x.N=N->Rel x g σ1 a w ->
  Region.wanted o (yielded ops a.tmps)=true/\∀ (K:Act->World->Prop) (Q:Exit->Act->World->Prop),(∀ g' a' w',Rel x g' (E σ1) a' w'->K a' w')->o.wp P a w K Q
theorem SoundP.unput{o:Oper}{σ:St}{d:Option Tmp}{u:D}(h:SoundP P N ops o E (σ.put d u))(hd:∀ i,d=some i->i∉o.looksAt ops):SoundP P N ops o E σ:=by
 intro σ1 h1 h2;exact h σ1 (fun t ht=>(h1 t ht).trans (St.put_other σ u hd t ht).symm) (h2.trans (St.put_b _ _ _).symm)
theorem VD{Q:Exit->Act->World->Prop}(hb:∀ i o,ops[i]?=some o->∀ e∈o.after,Region.binds .any e=true->e.on<i) :
  ∀ (l:List Oper) (k:Nat) (listed:Array Bool) (a:Act) (w:World),k+l.length=ops.size->(∀ j,j<l.length->l[j]?=ops[k+j]?)->(∀ j,k<j->j<ops.size->bnd ops j (j - 1)=true)->listed.size=ops.size ->
   (∀ j,j<k->listed.getD j true=true)->(∀ j,k<=j->j<ops.size->listed.getD j true=false)->wpList P ops Q l a w->wpAny P .any ops Q l.length listed a w
 | [],k,listed,a,w,hk,hl,ht,hsz,hlt,hge,h=>by
  refine ⟨?_,h⟩;cases hr:Region.ready .any ops listed with
  | nil=>rfl
  | cons i r=>
   have hi:i∈Region.ready .any ops listed:=by rw [hr];simp
   obtain ⟨hiu,oi,hoi,-⟩:=mem_ready.1 hi;have:=(Array.getElem?_eq_some_iff.1 hoi).1
   simp at hk
   rw [hlt i (by omega)] at hiu
   cases hiu
 | o::l,k,listed,a,w,hk,hl,ht,hsz,hlt,hge,h=>by
  have h0:ops[k]?=some o:=by have:=hl 0 (by simp);simpa using this.symm
  have hklt:k<ops.size:=(Array.getElem?_eq_some_iff.1 h0).1;have hr:k∈Region.ready .any ops listed:=mem_ready.2 ⟨hge k (Nat.le_refl _) hklt,o,h0,fun e he hb'=>by
   have h1:=hb k o h0 e he hb';have h2:=hlt e.on h1;have:e.on<listed.size:=by omega
   simpa [this] using h2⟩
  have ih:=VD (Q:=Q) hb l (k+1) (listed.setIfInBounds k true);have ih':∀ a w,wpList P ops Q l a w->wpAny P .any ops Q l.length (listed.setIfInBounds k true) a w:=fun a w=>ih a w (by simp at hk;omega) (fun j hj=>by have:=hl (j+1) (by simp;omega);simpa [Nat.add_assoc,Nat.add_comm 1 j] using this) (fun j hj=>ht j (by omega)) (by simpa using hsz) (fun j hj=>by
   by_cases e:k=j
   ·subst e
    have:k<listed.size:=by omega
    simp [this]
   ·rw [getD_set_ne true e];exact hlt j (by omega)) (fun j hj hjs=>by rw [getD_set_ne true (by omega)];exact hge j (by omega) hjs)
  refine ⟨fun q=>(by rw [q] at hr;cases hr),fun i hi=>?_⟩
  obtain ⟨hiu,oi,hoi,hall⟩:=mem_ready.1 hi;have hik:i=k:=by
   rcases Nat.lt_trichotomy i k with q|q|q
   ·rw [hlt i q] at hiu;cases hiu
   ·exact q
   ·exfalso
    have hilt:i<ops.size:=(Array.getElem?_eq_some_iff.1 hoi).1;obtain ⟨o',e,ho',he,hb',hon⟩:=YK (ht i q hilt);rw [hoi] at ho';injection ho' with ho';subst ho'
    have h1:=hall e he hb';have h2:=hge (i - 1) (by omega) (by omega)
    have h3:i - 1<listed.size:=by omega
    rw [hon] at h1
    simp [h3] at h1 h2;rw [h2] at h1;cases h1
  subst hik;unfold wpOp;simp only [h0];unfold wpList at h
  split
  ·rename_i hw
   rw [if_pos hw] at h
   exact h.imp (Oper.wp_mono ih') id
  ·rename_i hw
   rw [if_neg hw] at h
   exact ih' _ _ h
end
theorem XT{n:Nat}{p:Nat->Bool}(h:(List.range n).all p=true){i:Nat}(hi:i<n):p i=true:=List.all_eq_true.1 h i (List.mem_range.2 hi)
def aqst(M:Md)(ops:Array Oper)(o:Oper)(σ:St)(K:St->Prop):Prop:=match o.guard with
 | none=>match aopP M.P σ o.op with
  | some (ob,y)=>ob/\K (σ.put o.dst y)
  | none=>match aopB M.P σ o.op with
   | some (ob,y)=>ob/\K (σ.put o.dst y)
   | none=>Zq M.P σ o true id K
 | some (j,want)=>match grd ops σ j want with
  | none=>False
  | some c=>if (M.lit&&!c)=true then K (σ.put o.dst (gdT false .un)) else match aopP M.P σ o.op with
   | some (ob,y)=>(c=true->ob)/\K (σ.put o.dst (gdT c y))
   | none=>match aopB M.P σ o.op with
    | some (ob,y)=>(c=true->ob)/\K (σ.put o.dst (gdT c y))
    | none=>Zq M.P σ o c (gdT c) K
theorem aqst_yl{M:Md}{P:Program}(hP:M.P=P){N:Nat}{ops:Array Oper}(hc:chk N ops=true){o:Oper}(ho:∃ i:Nat,ops[i]?=some o){K:St->Prop}{σ:St}(h:aqst M ops o σ K):∃ y,Yl P N ops o σ y/\K (σ.put o.dst y):=by
 obtain ⟨io,ho⟩:=ho;have hdN:∀ d,o.dst=some d->d<N:=fun d q=>(XA hc ho q).1
 have val:∀ y,(∀ σ':St,(∀ t∈o.looksAt ops,σ'.t t=σ.t t)->σ'.b=σ.b->∀ (x:Cx) (g:Gh) (a:Act) (w:World),x.P=P->x.N=N->Rel x g σ' a w ->
   (Region.wanted o (yielded ops a.tmps)=true/\∃ r w' g',(execOp a.eval o).run P w=.ok (.value r) w'/\Rel x g' σ' a w'/\RT g' w' y r)\/(Region.wanted o (yielded ops a.tmps)=false/\RT g w y undef))->Yl P N ops o σ y:=by
  intro y hy σ' h1 h2 x g a w hx hN hr;rcases hy σ' h1 h2 x g a w hx hN hr with ⟨hw,r,w',g',r1,r2,r3⟩|⟨hw,r1⟩
  ·refine .inl ⟨hw,fun K Q hK=>?_⟩
   unfold Oper.wp;rw [r1,Oper.upon_value];exact hK _ _ _ (r2.put r3 o.dst (fun d q=>by rw [hN];exact hdN d q))
  ·exact .inr ⟨hw,hr.put r1 o.dst (fun d q=>by rw [hN];exact hdN d q)⟩
 subst hP;unfold aqst at h
 split at h
 ·rename_i hgd
  have hw:∀ a:Act,Region.wanted o (yielded ops a.tmps)=true:=fun a=>by simp [Region.wanted,hgd]
  split at h
  ·rename_i ob y hop
   refine ⟨y,val y fun σ' h1 h2 x g a w hx hN hr=>.inl ⟨hw a,?_⟩,h.2⟩
   rw [<- hx] at hop ⊢
   obtain ⟨r,r1,r2⟩:=Wg ((U6 o.op (z7 h1) h2).trans hop) h.1 hr;exact ⟨r,w,g,r1,hr,r2⟩
  ·split at h
   ·rename_i ob y hop
    refine ⟨y,val y fun σ' h1 h2 x g a w hx hN hr=>.inl ⟨hw a,?_⟩,h.2⟩
    rw [<- hx] at hop ⊢
    exact VH ((U5 h2 o.op (z7 h1)).trans hop) h.1 hr
   ·obtain ⟨r0,hF,hK⟩:=h
    have hF:=hF rfl;refine ⟨_,?_,hK⟩;intro σ' h1 h2 x g a w hx hN hr;refine .inl ⟨hw a,fun K Q hKK=>?_⟩
    obtain ⟨d,ob,f,caps,l,o2,ars,bs,r1,e1,e2,e3,e4,e5,e6,e7,e8⟩:=hF;rw [<- hx] at e6 ⊢
    exact Uq (r:=r0) ⟨d,ob,f,caps,l,o2,ars,bs,r1,e1,(XS o.op (z7 h1)).trans e2,e3,(vE h2 [] l 0 (fun z hz=>z7 h1 z (Wf e2 z hz))).trans e4,e5,e6,e7,e8⟩ hr (fun v g' w' c1 c2=>hKK _ _ _ (c1.put (c2) o.dst (fun d q=>by rw [hN];exact hdN d q)))
 ·rename_i j want hgd
  split at h
  ·exact h.elim
  ·rename_i c hcg
   have hw:∀ (σ':St),(∀ t∈o.looksAt ops,σ'.t t=σ.t t)->∀ (x:Cx) (g:Gh) (a:Act) (w:World),x.N=N->Rel x g σ' a w->Region.wanted o (yielded ops a.tmps)=c:=by
    intro σ' h1 x g a w hN hr;simp only [Region.wanted,hgd];subst hN;exact grd_ok hr hc ((grd_congr h1 hgd).trans hcg)
   split at h
   ·rename_i hl
    have hcf:c=false:=by
     cases c with
     | true=>simp at hl
     | false=>rfl
    subst hcf;exact ⟨_,val _ fun σ' h1 h2 x g a w hx hN hr=>.inr ⟨hw σ' h1 x g a w hN hr,wI g w .un⟩,h⟩
   ·cases c with
    | true=>
     split at h
     ·rename_i ob y hop
      refine ⟨_,val _ fun σ' h1 h2 x g a w hx hN hr=>.inl ⟨hw σ' h1 x g a w hN hr,?_⟩,h.2⟩
      rw [<- hx] at hop ⊢
      obtain ⟨r,r1,r2⟩:=Wg ((U6 o.op (z7 h1) h2).trans hop) (h.1 rfl) hr;exact ⟨r,w,g,r1,hr,vt r2⟩
     ·split at h
      ·rename_i ob y hop
       refine ⟨_,val _ fun σ' h1 h2 x g a w hx hN hr=>.inl ⟨hw σ' h1 x g a w hN hr,?_⟩,h.2⟩
       rw [<- hx] at hop ⊢
       obtain ⟨r,w',g',r1,r2,r3⟩:=VH ((U5 h2 o.op (z7 h1)).trans hop) (h.1 rfl) hr;exact ⟨r,w',g',r1,r2,vt r3⟩
      ·obtain ⟨r0,hF,hK⟩:=h
       have hF:=hF rfl;refine ⟨_,?_,hK⟩;intro σ' h1 h2 x g a w hx hN hr;refine .inl ⟨hw σ' h1 x g a w hN hr,fun K Q hKK=>?_⟩
       obtain ⟨d,ob,f,caps,l,o2,ars,bs,r1,e1,e2,e3,e4,e5,e6,e7,e8⟩:=hF;rw [<- hx] at e6 ⊢
       exact Uq (r:=r0) ⟨d,ob,f,caps,l,o2,ars,bs,r1,e1,(XS o.op (z7 h1)).trans e2,e3,(vE h2 [] l 0 (fun z hz=>z7 h1 z (Wf e2 z hz))).trans e4,e5,e6,e7,e8⟩ hr (fun v g' w' c1 c2=>hKK _ _ _ (c1.put (vt c2) o.dst (fun d q=>by rw [hN];exact hdN d q)))
    | false=>
     have fal:∀ y,Yl M.P N ops o σ (gdT false y):=fun y=>val _ fun σ' h1 h2 x g a w hx hN hr=>.inr ⟨hw σ' h1 x g a w hN hr,wI g w y⟩
     split at h
     ·exact ⟨_,fal _,h.2⟩
     ·split at h
      ·exact ⟨_,fal _,h.2⟩
      ·obtain ⟨r0,-,hK⟩:=h
       exact ⟨_,fal _,hK⟩
structure Fx where
 i:Nat
 E:St->St
 th:D->D
section
variable {P:Program} {N:Nat} {ops:Array Oper} {m:Nat} {fx:List Nat} {K:St->Prop}
def v6(P:Program)(N:Nat)(ops:Array Oper)(m:Nat)(K:St->Prop):Nat->Array Bool->(List Fx->Prop)->St->Prop
 | 0,listed,Ls,σ=>(∀ j,j<m->listed.getD j true=true)/\K σ
 | fuel+1,listed,Ls,σ=>Region.ready .any ops listed≠[]/\∀ i∈Region.ready .any ops listed,∃ o,ops[i]?=some o/\i<m /\
   (((∀ es,Ls es->∀ e∈es,e.i≠i)/\∃ y,Yl P N ops o σ y/\v6 P N ops m K fuel (listed.setIfInBounds i true) Ls (σ.put o.dst y)) \/
    (∃ (e:Fx) (Ls':List Fx->Prop),e.i=i/\SoundP P N ops o e.E σ/\(∃ es,Ls' es)/\(∀ es,Ls' es->Ls (e::es))/\v6 P N ops m K fuel (listed.setIfInBounds i true) Ls' (e.E σ)))
def FxOk(ops:Array Oper)(m:Nat)(e:Fx):Prop:=∀ (σ:St) (k:Nat) (ok:Oper) (z:D),ops[k]?=some ok->k<m->k≠e.i->e.E (σ.put ok.dst z)=(e.E σ).put ok.dst (e.th z)
def FlC(P:Program)(N:Nat)(ops:Array Oper)(i:Nat)(y:D)(o:Oper):List Fx->St->Prop
 | [],_=>True
 | e::es,σ=>ancB ops e.i ops.size i=true\/(e.th y=y/\Yl P N ops o (e.E σ) y/\FlC P N ops i y o es (e.E σ))
theorem FlC.put{i:Nat}{y:D}{o:Oper}{j:Nat}{oj:Oper}(hj:ops[j]?=some oj)(hjm:j<m)(ha:∀ d,oj.dst=some d->d∉o.looksAt ops) :
  ∀ (es:List Fx) (σ:St) (z:D),(∀ e∈es,FxOk ops m e/\e.i≠j)->FlC P N ops i y o es σ->FlC P N ops i y o es (σ.put oj.dst z)
 | [],_,_,_,_=>trivial
 | e::es,σ,z,he,h=>by
  rcases h with h|⟨h1,h2,h3⟩
  ·exact .inl h
  ·obtain ⟨q1,q2⟩:=he e (by simp)
   refine .inr ⟨h1,?_,?_⟩
   ·rw [q1 σ j oj z hj hjm (Ne.symm q2)];exact h2.put _ ha
   ·rw [q1 σ j oj z hj hjm (Ne.symm q2)];exact FlC.put hj hjm ha es _ _ (fun e' h'=>he e' (List.mem_cons_of_mem _ h')) h3
theorem FlC.unput{i:Nat}{y:D}{o:Oper}{j:Nat}{oj:Oper}(hj:ops[j]?=some oj)(hjm:j<m)(ha:∀ d,oj.dst=some d->d∉o.looksAt ops) :
  ∀ (es:List Fx) (σ:St) (z:D),(∀ e∈es,FxOk ops m e/\e.i≠j)->FlC P N ops i y o es (σ.put oj.dst z)->FlC P N ops i y o es σ
 | [],_,_,_,_=>trivial
 | e::es,σ,z,he,h=>by
  rcases h with h|⟨h1,h2,h3⟩
  ·exact .inl h
  ·obtain ⟨q1,q2⟩:=he e (by simp)
   rw [q1 σ j oj z hj hjm (Ne.symm q2)] at h2 h3
   exact .inr ⟨h1,h2.unput ha,FlC.unput hj hjm ha es _ _ (fun e' h'=>he e' (List.mem_cons_of_mem _ h')) h3⟩
theorem xbW{i:Nat}{oi:Oper}{y:D}(hi:ops[i]?=some oi)(him:i<m)(htail:∀ j,m<=j->j<ops.size->ancB ops j ops.size i=true) :
  ∀ (fuel:Nat) (listed:Array Bool) (Ls:List Fx->Prop) (σ:St),(∀ es,Ls es->∀ e∈es,FxOk ops m e/\e.i≠i)->listed.size=ops.size->Closed ops listed ->
   (∀ j oj,ops[j]?=some oj->j≠i->j<m->listed.getD j true=false->bnd ops j i=false->oi.apart ops oj=true) ->
   i∈Region.ready .any ops listed->Yl P N ops oi σ y->(∀ es,Ls es->FlC P N ops i y oi es σ) ->
   v6 P N ops m K fuel (listed.setIfInBounds i true) Ls (σ.put oi.dst y)->v6 P N ops m K (fuel+1) listed Ls σ:=by
 have hbn:∀ (listed:Array Bool) (j:Nat),i∈Region.ready .any ops listed->j∈Region.ready .any ops listed->bnd ops j i=false:=by
  intro listed j hr hj;cases hb:bnd ops j i with
  | false=>rfl
  | true=>
   obtain ⟨-,oj,hoj,hall⟩:=mem_ready.1 hj;obtain ⟨o,e,ho,he,hb,hon⟩:=YK hb;rw [hoj] at ho;injection ho with ho;subst ho
   have h1:=hall e he hb;have h0:=(mem_ready.1 hr).1;rw [hon] at h1
   rcases Nat.lt_or_ge i listed.size with h'|h'
   ·simp [h'] at h0 h1;rw [h0] at h1;cases h1
   ·simp [Array.getElem?_eq_none h'] at h1
 have hjm:∀ (listed:Array Bool) (j:Nat),Closed ops listed->listed.size=ops.size->i∈Region.ready .any ops listed->j∈Region.ready .any ops listed->j<m:=by
  intro listed j hcl hsz hir hj;rcases Nat.lt_or_ge j m with q|q
  ·exact q
  ·obtain ⟨-,oj,hoj,-⟩:=mem_ready.1 hj
   have h1:=YI hcl hj _ _ (htail j q (Array.getElem?_eq_some_iff.1 hoj).1);have h0:=(mem_ready.1 hir).1;have hilt:i<listed.size:=by rw [hsz];exact (Array.getElem?_eq_some_iff.1 hi).1
   simp [hilt] at h0 h1;rw [h0] at h1;cases h1
 intro fuel
 induction fuel with
 | zero=>
  intro listed Ls σ hes hsz hcl hfr hr hy hfl H;refine ⟨fun h=>(by rw [h] at hr;cases hr),fun j hj=>?_⟩
  have hlt:=hjm listed j hcl hsz hr hj
  by_cases hji:j=i
  ·subst hji;exact ⟨oi,hi,hlt,.inl ⟨fun es h1 e he=>(hes es h1 e he).2,y,hy,H⟩⟩
  ·have h1:=H.1 j hlt
   rw [getD_set_ne true (Ne.symm hji)] at h1
   rw [(mem_ready.1 hj).1] at h1
   cases h1
 | succ fuel ih=>
  intro listed Ls σ hes hsz hcl hfr hr hy hfl H;refine ⟨fun h=>(by rw [h] at hr;cases hr),fun j hj=>?_⟩
  have hlt:=hjm listed j hcl hsz hr hj
  by_cases hji:j=i
  ·subst hji;exact ⟨oi,hi,hlt,.inl ⟨fun es h1 e he=>(hes es h1 e he).2,y,hy,H⟩⟩
  ·obtain ⟨hjun,oj',hoj',hall⟩:=mem_ready.1 hj
   obtain ⟨a1,a2,a3⟩:=Oper.apart_spec (hfr j oj' hoj' hji hlt hjun (hbn listed j hr hj));obtain ⟨oj,hoj,-,hk⟩:=H.2 j (ready_mono hj hji);rw [hoj] at hoj';injection hoj' with hoj';subst hoj'
   have hsz':(listed.setIfInBounds j true).size=ops.size:=by simpa using hsz
   have hfr':∀ k ok,ops[k]?=some ok->k≠i->k<m->(listed.setIfInBounds j true).getD k true=false->bnd ops k i=false->oi.apart ops ok=true:=fun k ok hk hki hkm hun hb=>by
    refine hfr k ok hk hki hkm ?_ hb
    by_cases hjk:j=k
    ·subst hjk;exact hjun
    ·rw [getD_set_ne true hjk] at hun;exact hun
   rcases hk with ⟨hne,z,hz,H1⟩|⟨e,Ls',he,hS,hne,hsub,H1⟩
   ·refine ⟨oj,hoj,hlt,.inl ⟨hne,z,hz.unput a1,?_⟩⟩
    refine ih (listed.setIfInBounds j true) Ls _ hes hsz' (Xd hcl hj) hfr' (ready_mono hr (Ne.symm hji)) (hy.put z a3) (fun es hes'=>FlC.put hoj hlt a3 es σ z (fun e he=>⟨(hes es hes' e he).1,hne es hes' e he⟩) (hfl es hes')) ?_
    rw [Array.setIfInBounds_comm _ _ hji,<- St.put_comm σ y z a2];exact H1
   ·refine ⟨oj,hoj,hlt,.inr ⟨e,Ls',he,hS.unput a1,hne,hsub,?_⟩⟩
    have hanc:ancB ops e.i ops.size i≠true:=fun q=>by
     rw [he] at q
     have h1:=YI hcl hj _ _ q;have h0:=(mem_ready.1 hr).1;have hilt:i<listed.size:=by rw [hsz];exact (Array.getElem?_eq_some_iff.1 hi).1
     simp [hilt] at h0 h1;rw [h0] at h1;cases h1
    obtain ⟨es0,hes0⟩:=hne;have q:=(hfl _ (hsub _ hes0)).resolve_left hanc;refine ih (listed.setIfInBounds j true) Ls' _ (fun es h' e' he'=>hes _ (hsub _ h') e' (List.mem_cons_of_mem _ he')) hsz' (Xd hcl hj) hfr' (ready_mono hr (Ne.symm hji)) q.2.1 (fun es h'=>((hfl _ (hsub _ h')).resolve_left hanc).2.2) ?_
    rw [Array.setIfInBounds_comm _ _ hji];have he0:=hes _ (hsub _ hes0) e (by simp)
    have:=he0.1 σ i oi y hi him (Ne.symm he0.2);rw [q.1] at this
    rw [<- this];exact H1
inductive Tr where
 | nil
 | no
 | fl (i:Nat) (t:Tr)
 | fx (i:Nat) (t r:Tr)
def Tr.len:Tr->Nat
 | .nil=>0
 | .no=>0
 | .fl _ t=>t.len+1
 | .fx _ t _=>t.len+1
def Tr.alts:Tr->List Nat
 | .fx i _ r=>i::r.alts
 | _=>[]
def Tr.isNo:Tr->Bool
 | .no=>true
 | _=>false
def WK(P:Program)(N:Nat)(ops:Array Oper)(τ:St):Tr->(List Fx->Prop)->St->Prop
 | .nil,_,σ=>σ=τ
 | .no,_,_=>True
 | .fl i t,Ls,σ=>∃ o,ops[i]?=some o/\∃ y,Yl P N ops o σ y/\(∀ es,Ls es->FlC P N ops i y o es σ)/\WK P N ops τ t Ls (σ.put o.dst y)
 | .fx i t r,Ls,σ=>(∃ o,ops[i]?=some o/\∃ (e:Fx) (Ls':List Fx->Prop),e.i=i/\SoundP P N ops o e.E σ/\(∃ es,Ls' es)/\(∀ es,Ls' es->Ls (e::es))/\WK P N ops τ t Ls' (e.E σ)) /\
   ∃ Ls2:List Fx->Prop,(∀ es,Ls2 es->Ls es)/\WK P N ops τ r Ls2 σ
def Ws:Op->Bool
 | .store _ _ _=>true
 | _=>false
def ordB(ops:Array Oper)(m:Nat)(fx:List Nat)(fl:Nat->Nat->Bool):Tr->List Nat->List Nat->Array Bool->Bool
 | .nil,al,_,listed=>al.isEmpty&&(List.range m).all fun j=>listed.getD j true
 | .no,al,_,_=>!al.isEmpty
 | .fl i t,al,dn,listed=>al.isEmpty&&decide (i<m)&&!dn.contains i&&(Region.ready .any ops listed).contains i&&!fx.contains i &&
   (match ops[i]? with
   | none=>false
   | some o=>(match o.dst with
     | none=>false
     | some d=>!(o.looksAt ops).contains d&&dn.all fun j=>match ops[j]? with
      | some oj=>!(oj.looksAt ops).contains d
      | none=>false) &&
    ((List.range m).all fun j=>listed.getD j true||j==i||bnd ops j i||match ops[j]? with
      | some oj=>o.apart ops oj
      | none=>true)) &&
   ordB ops m fx fl t [] (i::dn) (listed.setIfInBounds i true)
 | .fx i t r,al,dn,listed=>decide (i<m)&&!dn.contains i&&(Region.ready .any ops listed).contains i&&fx.contains i &&
   (match ops[i]? with
   | none=>false
   | some o=>(match o.dst with
     | none=>Ws o.op
     | some d=>!(o.looksAt ops).contains d&&dn.all fun j=>match ops[j]? with
      | some oj=>!(oj.looksAt ops).contains d
      | none=>false) &&
    (o.guard.isNone&&(Region.ready .any ops listed).all (fun j=>j==i||al.contains j||r.alts.contains j)&&dn.all (fun j=>match ops[j]? with
      | some oj=>fx.contains j||ancB ops i ops.size j||fl i j
      | none=>false))) &&
   (r.isNo||r.len==t.len+1)&&ordB ops m fx fl t [] (i::dn) (listed.setIfInBounds i true)&&ordB ops m fx fl r (i::al) dn listed
theorem v7{fl:Nat->Nat->Bool}{τ:St}(htail:∀ j,m<=j->j<ops.size->∀ i,i<m->ancB ops j ops.size i=true) :
  ∀ (tr:Tr) (al dn:List Nat) (listed:Array Bool) (Ls:List Fx->Prop) (σ:St),ordB ops m fx fl tr al dn listed=true->(∀ es,Ls es->∀ e∈es,FxOk ops m e/\fx.contains e.i=true)->listed.size=ops.size->Closed ops listed ->
   WK P N ops τ tr Ls σ->(al=[]->v6 P N ops m (fun σ'=>σ'=τ) tr.len listed Ls σ) /\
    ∀ j∈tr.alts,∃ o,ops[j]?=some o/\j<m/\∃ (e:Fx) (Ls':List Fx->Prop),e.i=j/\SoundP P N ops o e.E σ/\(∃ es,Ls' es)/\(∀ es,Ls' es->Ls (e::es))/\v6 P N ops m (fun σ'=>σ'=τ) (tr.len - 1) (listed.setIfInBounds j true) Ls' (e.E σ)
 | .nil,al,dn,listed,Ls,σ,hB,hes,hsz,hcl,h=>by
  refine ⟨fun _=>⟨fun j hj=>?_,h⟩,fun j hj=>by cases hj⟩
  simp only [ordB,Bool.and_eq_true] at hB
  exact List.all_eq_true.1 hB.2 j (List.mem_range.2 hj)
 | .no,al,dn,listed,Ls,σ,hB,hes,hsz,hcl,h=>by
  refine ⟨fun q=>?_,fun j hj=>by cases hj⟩
  subst q;cases hB
 | .fl i t,al,dn,listed,Ls,σ,hB,hes,hsz,hcl,h=>by
  refine ⟨fun _=>?_,fun j hj=>by cases hj⟩
  obtain ⟨o,ho,y,hy,hf,hK⟩:=h;simp only [ordB,ho,Bool.and_eq_true,decide_eq_true_eq,Bool.not_eq_true'] at hB
  obtain ⟨⟨⟨⟨⟨⟨-,him⟩,-⟩,hr⟩,hp⟩,-,hB1⟩,hB2⟩:=hB;have hr:i∈Region.ready .any ops listed:=by simpa using hr
  have hne:∀ es,Ls es->∀ e∈es,e.i≠i:=fun es h1 e he hei=>by
   have:=(hes es h1 e he).2;rw [hei,hp] at this;cases this
  refine xbW ho him (fun j h1 h2=>htail j h1 h2 i him) t.len listed Ls σ (fun es h1 e he=>⟨(hes es h1 e he).1,hne es h1 e he⟩) hsz hcl (fun j oj hoj hji hjm hun hb=>?_) hr hy hf ?_
  ·have:=List.all_eq_true.1 hB1 j (List.mem_range.2 hjm)
   simp only [hun,hb,hoj,Bool.or_eq_true,Bool.false_or,beq_iff_eq,Bool.or_false] at this
   rcases this with q|q
   ·exact absurd q hji
   ·exact q
  ·exact (v7 htail t [] _ _ Ls _ hB2 hes (by simpa using hsz) (Xd hcl hr) hK).1 rfl
 | .fx i t r,al,dn,listed,Ls,σ,hB,hes,hsz,hcl,h=>by
  obtain ⟨⟨o,ho,e,Ls',he,hS,hne,hsub,hK⟩,Ls2,hsub2,hK2⟩:=h;simp only [ordB,ho,Bool.and_eq_true,decide_eq_true_eq,Bool.not_eq_true'] at hB
  obtain ⟨⟨⟨⟨⟨⟨⟨him,-⟩,hr⟩,-⟩,-,⟨-,hall⟩,-⟩,hlen⟩,hB2⟩,hB3⟩:=hB;have hr:i∈Region.ready .any ops listed:=by simpa using hr
  have IH1:=(v7 htail t [] _ _ Ls' _ hB2 (fun es h1 e' he'=>hes _ (hsub _ h1) e' (List.mem_cons_of_mem _ he')) (by simpa using hsz) (Xd hcl hr) hK).1 rfl
  have IH2:=(v7 htail r (i::al) dn listed Ls2 σ hB3 (fun es h1=>hes es (hsub2 es h1)) hsz hcl hK2).2
  have key:∀ j∈(Tr.fx i t r).alts,∃ o,ops[j]?=some o/\j<m/\∃ (e:Fx) (Ls':List Fx->Prop),e.i=j/\SoundP P N ops o e.E σ/\(∃ es,Ls' es)/\(∀ es,Ls' es->Ls (e::es))/\v6 P N ops m (fun σ'=>σ'=τ) t.len (listed.setIfInBounds j true) Ls' (e.E σ):=by
   intro j hj;simp only [Tr.alts] at hj
   rcases List.mem_cons.1 hj with rfl|hj
   ·exact ⟨o,ho,him,e,Ls',he,hS,hne,hsub,IH1⟩
   ·obtain ⟨o',q1,q2,e',Ls3,q3,q4,q5,q6,q7⟩:=IH2 j hj
    refine ⟨o',q1,q2,e',Ls3,q3,q4,q5,fun es h1=>hsub2 _ (q6 es h1),?_⟩
    have:r.len - 1=t.len:=by
     rcases Bool.or_eq_true_iff.1 hlen with q|q
     ·cases r<;>first|(cases hj;done)|(cases q;done)
     ·have:=beq_iff_eq.1 q;omega
    rw [this] at q7
    exact q7
  refine ⟨fun q=>?_,fun j hj=>by simpa [Tr.len] using key j hj⟩
  subst q;refine ⟨fun q=>(by rw [q] at hr;cases hr),fun j hj=>?_⟩
  have hja:j∈(Tr.fx i t r).alts:=by
   have:=List.all_eq_true.1 hall j hj;simp only [List.contains_nil,Bool.or_false,Bool.or_eq_true,beq_iff_eq,List.contains_iff_mem] at this
   simp only [Tr.alts];rcases this with q|q
   ·simp [q]
   ·exact List.mem_cons_of_mem _ q
  obtain ⟨o',q1,q2,e',Ls3,q3,q4,q5,q6,q7⟩:=key j hja;exact ⟨o',q1,q2,.inr ⟨e',Ls3,q3,q4,q5,q6,q7⟩⟩
theorem YG{x:Cx}(hx:x.P=P)(hN:x.N=N){Q:Exit->Act->World->Prop}{n:Nat}(hm:m<=ops.size)
  (hQ:∀ σ' g' a' w' (listed:Array Bool),listed.size=ops.size->(∀ j,j<m->listed.getD j true=true)->(∀ j,m<=j->j<ops.size->listed.getD j true=false)->Rel x g' σ' a' w'->K σ'->wpAny P .any ops Q n listed a' w') :
  ∀ (fuel:Nat) (listed:Array Bool) (Ls:List Fx->Prop) (σ:St) (g:Gh) (a:Act) (w:World),listed.size=ops.size->(∀ j,m<=j->j<ops.size->listed.getD j true=false)->Rel x g σ a w->v6 P N ops m K fuel listed Ls σ->wpAny P .any ops Q (n+fuel) listed a w
 | 0,listed,Ls,σ,g,a,w,hsz,hge,hr,h=>hQ σ g a w listed hsz h.1 hge hr h.2
 | fuel+1,listed,Ls,σ,g,a,w,hsz,hge,hr,h=>by
  refine ⟨fun q=>absurd q h.1,fun i hi=>?_⟩
  obtain ⟨o,ho,him,hk⟩:=h.2 i hi;have hge':∀ j,m<=j->j<ops.size->(listed.setIfInBounds i true).getD j true=false:=fun j hj hjs=>by rw [getD_set_ne true (by omega)];exact hge j hj hjs
  have ih:∀ Ls' σ' g' a' w',Rel x g' σ' a' w'->v6 P N ops m K fuel (listed.setIfInBounds i true) Ls' σ'->wpAny P .any ops Q (n+fuel) (listed.setIfInBounds i true) a' w':=fun Ls' σ' g' a' w' hr' h'=>YG hx hN hm hQ fuel _ Ls' σ' g' a' w' (by simpa using hsz) hge' hr' h'
  unfold wpOp;simp only [ho];rcases hk with ⟨-,y,hy,hK⟩|⟨e,Ls',-,hS,-,-,hK⟩
  ·rcases hy σ (fun _ _=>rfl) rfl x g a w hx hN hr with ⟨hw,h1⟩|⟨hw,h1⟩
   ·rw [if_pos hw]
    exact .inl (h1 _ _ fun g' a' w' hr'=>ih _ _ g' a' w' hr' hK)
   ·rw [if_neg (by rw [hw];simp)]
    exact ih _ _ g _ w h1 hK
  ·obtain ⟨hw,h1⟩:=hS σ (fun _ _=>rfl) rfl x g a w hx hN hr
   rw [if_pos hw];exact .inl (h1 _ _ fun g' a' w' hr'=>ih _ _ g' a' w' hr' hK)
end
def aFlQ(M:Md)(ops:Array Oper)(σ τ:St):List Oper->Prop
 | []=>True
 | o::r=>(match o.dst with
  | some d=>τ.t d=σ.t d/\aqst M ops o τ (fun τ'=>τ'.t d=σ.t d)
  | none=>False)/\aFlQ M ops σ τ r
def CallE(P:Program)(f:FuncId)(ars:List D)(bs:List Nat)(K:D->List D->Prop):Prop:=∃ r0 o0,FCon P f ars (fun r o=>r=r0/\o=o0)/\(bs=[]\/(Pure r0/\∀ o∈o0,Pure o))/\K r0 o0
def ACallE(M:Md)(σ:St)(o:Oper)(K:St->Prop):Prop:=match aFn σ o.op with
 | some (_,f0,_,ops0)=>match wu (M.md f0) 0 ops0 σ with
  | some (o1,σ1)=>match aFn σ1 o.op with
   | some (o0,f,caps,ops)=>match wU σ1 (M.md f0) 0 ops with
    | some (o2,ars,gs,bs)=>o0/\o1/\o2/\nodB (gvN gs)=true/\nodB (gvK gs)=true/\bs.all (pOut (gvN gs))=true/\CallE M.P f (ars++caps) bs (aft σ1 o.dst gs K)
    | none=>False
   | none=>False
  | none=>False
 | none=>False
def aEff(M:Md)(o:Oper)(σ:St)(K:St->Prop):Prop:=match aop2 M.P σ o.dst o.op with
 | some (ob,y,σ')=>ob/\K (σ'.put o.dst y)
 | none=>ACallE M σ o K
def aPivN(M:Md)(ops:Array Oper)(K:St->Prop)(fl:List Oper)(p:Oper)(σ:St):Prop:=aEff M p σ fun τ=>aFlQ M ops σ τ fl/\K τ
def Meet(σ τ:St):Prop:=σ=τ
def altK(A:(St->Prop)->Prop)(K:St->Prop)(τ:St):Prop:=A (fun σ=>Meet σ τ)/\K τ
def aqsN(M:Md)(ops:Array Oper)(fl:Nat->Nat->Bool):(St->Prop)->Tr->List (Nat×Oper)->St->Prop
 | K,.nil,_,σ=>K σ
 | _,.no,_,_=>True
 | K,.fl i t,acc,σ=>match ops.toList[i]? with
  | none=>False
  | some o=>aqst M ops o σ (aqsN M ops fl K t ((i,o)::acc))
 | K,.fx i t r,acc,σ=>match ops.toList[i]? with
  | none=>False
  | some o=>aPivN M ops (aqsN M ops fl (altK (fun K'=>aqsN M ops fl K' r acc σ) K) t (acc.filter fun p=>fl i p.1)) ((acc.filter fun p=>fl i p.1).map Prod.snd) o σ
section
variable {M:Md} {ops:Array Oper} {fl:Nat->Nat->Bool} {K:St->Prop} {acc:List (Nat×Oper)} {σ:St} {i j:Nat} {t r u:Tr}
theorem aqsN_nil:aqsN M ops fl K .nil acc σ=K σ:=rfl
theorem aqsN_no:aqsN M ops fl K .no acc σ=True:=rfl
theorem aqsN_fl:aqsN M ops fl K (.fl i t) acc σ=match ops.toList[i]? with
  | none=>False
  | some o=>aqst M ops o σ (aqsN M ops fl K t ((i,o)::acc)):=rfl
theorem aqsN_fx:aqsN M ops fl K (.fx i t (.fx j r u)) acc σ=match ops.toList[i]? with
  | none=>False
  | some o=>aPivN M ops (aqsN M ops fl (altK (fun K'=>aqsN M ops fl K' (.fx j r u) acc σ) K) t (acc.filter fun p=>fl i p.1)) ((acc.filter fun p=>fl i p.1).map Prod.snd) o σ:=rfl
theorem aqsN_fx1:aqsN M ops fl K (.fx i t .no) acc σ=match ops.toList[i]? with
  | none=>False
  | some o=>aPivN M ops (aqsN M ops fl K t (acc.filter fun p=>fl i p.1)) ((acc.filter fun p=>fl i p.1).map Prod.snd) o σ:=by
 have:altK (fun K'=>aqsN M ops fl K' .no acc σ) K=K:=funext fun τ=>propext ⟨fun h=>h.2,fun h=>⟨trivial,h⟩⟩
 conv=>lhs;unfold aqsN
 rw [this]
theorem altK_ap{A:(St->Prop)->Prop}{τ:St}:altK A K τ=(A (fun σ=>Meet σ τ)/\K τ):=rfl
end
def lin(fx:List Nat):List Nat->Tr
 | []=>.nil
 | i::π=>match fx.contains i with
  | true=>.fx i (lin fx π) .no
  | false=>.fl i (lin fx π)
theorem lin_nil{fx:List Nat}:lin fx []=.nil:=rfl
theorem lin_cons{fx:List Nat}{i:Nat}{π:List Nat}:lin fx (i::π)=match fx.contains i with
  | true=>.fx i (lin fx π) .no
  | false=>.fl i (lin fx π):=rfl
theorem aop2_fx{P:Program}{σ σ':St}{d:Tmp}{op:Op}{ob:Prop}{y:D}(h:aop2 P σ (some d) op=some (ob,y,σ')) :
  ∃ (θ:D->D) (B:Nat->Option Ob),σ'=⟨fun i=>θ (σ.t i),B⟩/\∀ τ:St,τ.b=σ.b->(∀ z∈op.operands,ev τ z=ev σ z)->aop2 P τ (some d) op=some (ob,y,⟨fun i=>θ (τ.t i),B⟩):=by
 unfold aop2 at h
 split at h
 ·rename_i t
  split at h
  ·rename_i ag n z hd hk
   injection hd with hd;subst hd
   injection h with h;injection h with e1 e2;injection e2 with e2 e3
   subst e1 e2 e3;refine ⟨scT (pOut [d]),((σ.sc (pOut [d]) (pOut [d])).setB d (.box _)).b,rfl,fun τ hτ _=>?_⟩
   unfold aop2;simp only [hk,St.setB,St.sc,hτ]
  ·cases h
 ·rename_i t z
  split at h
  ·rename_i row hd hc
   injection hd with hd;subst hd
   injection h with h;injection h with e1 e2;injection e2 with e2 e3
   subst e1 e2 e3;refine ⟨scT (pOut [d]),((σ.sc (pOut [d]) (pOut [d])).setB d (.box _)).b,rfl,fun τ hτ hv=>?_⟩
   have e:=hv z (by simp [Op.operands])
   unfold aop2;simp only [e,hc,St.setB,St.sc,hτ]
  ·cases h
 ·split at h
  ·rename_i hd _ _;cases hd
  ·cases h
 ·rename_i t parts
  split at h
  ·rename_i ob' y' h'
   injection h with h;injection h with e1 e2;injection e2 with e2 e3
   subst e1 e2 e3;refine ⟨fun y=>y,σ.b,rfl,fun τ hτ hv=>?_⟩
   have e:uS P τ t parts=uS P σ t parts:=by
    simp only [uS];cases tk P t<;>try rfl
    simp only;rw [Ym _ _ (fun z hz=>hv z.2 (by simp [Op.operands];exact ⟨z.1,by simpa using hz⟩))]
   unfold aop2;simp only [e,h',<- hτ]
  ·cases h
 ·rename_i t l c
  split at h
  ·rename_i e k by_ z kl n kc m hd hk hl hc
   injection hd with hd;subst hd
   injection h with h;injection h with e1 e2;injection e2 with e2 e3
   subst e1 e2 e3;refine ⟨scT (pOut [d]),((σ.sc (pOut [d]) (pOut [d])).setB d (.arr e k _)).b,rfl,fun τ hτ hv=>?_⟩
   have e1:=hv l (by simp [Op.operands])
   have e2:=hv c (by simp [Op.operands])
   unfold aop2;simp only [e1,e2,hk,hl,hc,St.setB,St.sc,hτ]
  ·cases h
 ·rename_i t len parts
  split at h
  ·rename_i e k by_ z hd hk
   injection hd with hd;subst hd
   split at h
   ·rename_i ob' rows raw h'
    injection h with h;injection h with e1 e2;injection e2 with e2 e3
    subst e1 e2 e3;refine ⟨scT (pOut (d::idsC raw)),((σ.sc (pOut (d::idsC raw)) (pOut (d::idsC raw))).setB d (.arr e k rows)).b,rfl,fun τ hτ hv=>?_⟩
    have e1:=Yn hτ (k:=k) parts.toList 0 (fun z hz=>hv z.2 (by simp [Op.operands];exact ⟨z.1,by simpa using hz⟩))
    unfold aop2;simp only [e1,hk,h',St.setB,St.sc,hτ]
   ·cases h
  ·cases h
 ·rename_i args ts
  split at h
  ·rename_i s z t t' hd ha ht
   injection hd with hd;subst hd
   have hops:∀ τ:St,(∀ y∈(Op.call ⟨.builtin .append,args,ts⟩).operands,ev τ y=ev σ y)->ev τ s=ev σ s/\ev τ z=ev σ z:=fun τ hv=>
    ⟨hv s (by simp [Op.operands,Call.operands,<- Array.mem_toList_iff,ha]),hv z (by simp [Op.operands,Call.operands,<- Array.mem_toList_iff,ha])⟩
   split at h
   ·rename_i e k by_ zz hk
    split at h
    ·rename_i ob' rows' ids hx
     split at h
     ·rename_i id k' n hs
      split at h
      ·rename_i e' k'' rows hrow
       injection h with h;injection h with e1 e2;injection e2 with e2 e3
       subst e1 e2 e3;refine ⟨scT (pOut (nmA d id::id::ids)),((σ.sc (pOut (nmA d id::id::ids)) (pOut (nmA d id::id::ids))).setB (nmA d id) (.arr e k _)).b,rfl,fun τ hτ hv=>?_⟩
       obtain ⟨e1,e2⟩:=hops τ hv;unfold aop2;simp only [ha,ht,hk,e1,e2,srcK_b hτ,hx,hs,hτ,hrow,St.setB,St.sc]
      ·cases h
     ·rename_i hs
      injection h with h;injection h with e1 e2;injection e2 with e2 e3
      subst e1 e2 e3;refine ⟨scT (pOut (d::ids)),((σ.sc (pOut (d::ids)) (pOut (d::ids))).setB d (.arr e k _)).b,rfl,fun τ hτ hv=>?_⟩
      obtain ⟨e1,e2⟩:=hops τ hv;unfold aop2;simp only [ha,ht,hk,e1,e2,srcK_b hτ,hx,hs,hτ,St.setB,St.sc]
     ·cases h
    ·cases h
   ·cases h
  ·cases h
 ·cases h
theorem aop2_fxS{P:Program}{σ σ':St}{op:Op}(hs:Ws op=true){ob:Prop}{y:D}(h:aop2 P σ none op=some (ob,y,σ')) :
  ∃ (θ:D->D) (B:Nat->Option Ob),σ'=⟨fun i=>θ (σ.t i),B⟩/\∀ τ:St,τ.b=σ.b->(∀ z∈op.operands,ev τ z=ev σ z)->aop2 P τ none op=some (ob,y,⟨fun i=>θ (τ.t i),B⟩):=by
 unfold Ws at hs
 split at hs
 ·rename_i t p v
  unfold aop2 at h
  simp only at h
  split at h
  ·rename_i xs ag n zz hd0 hc hk
   split at h
   ·rename_i id off hp
    split at h
    ·rename_i row hrow
     injection h with h;injection h with e1 e2;injection e2 with e2 e3
     subst e1 e2 e3;refine ⟨fun y=>y,(σ.setB id (.box (lay row off xs))).b,rfl,fun τ hτ hv=>?_⟩
     have e1:=hv p (by simp [Op.operands])
     have e2:=hv v (by simp [Op.operands])
     unfold aop2;simp only [e1,e2,hc,hk,hp,hrow,hτ,St.setB]
    ·cases h
   ·rename_i id k i off hp
    split at h
    ·rename_i e k' rows ob' ds hrow hfd
     injection h with h;injection h with e1 e2;injection e2 with e2 e3
     subst e1 e2 e3;refine ⟨scT (pOut (idsC xs)),((σ.sc (pOut (idsC xs)) (pOut (idsC xs))).setB id (.arr e k (rows.set i (lay (rows.getD i []) off ds)))).b,rfl,fun τ hτ hv=>?_⟩
     have e1:=hv p (by simp [Op.operands])
     have e2:=hv v (by simp [Op.operands])
     unfold aop2;simp only [e1,e2,hc,hk,hp,hrow,Wm hτ,hfd,hτ,St.setB,St.sc]
    ·rename_i e k' rows i0 c0 r _ hrow hfd
     split at h
     ·rename_i dd
      injection h with h;injection h with e1 e2;injection e2 with e2 e3
      subst e1 e2 e3;refine ⟨fun y=>y,(σ.setB id (.hol e k' rows i0 c0 dd)).b,rfl,fun τ hτ hv=>?_⟩
      have e1:=hv p (by simp [Op.operands])
      have e2:=hv v (by simp [Op.operands])
      unfold aop2;simp only [e1,e2,hc,hk,hp,hrow,Wm hτ,hfd,hτ,St.setB]
     ·cases h
    ·cases h
   ·cases h
  ·cases h
 ·cases hs
theorem aEff_fx{M:Md}{o:Oper}(hdd:(∃ d,o.dst=some d)\/(o.dst=none/\Ws o.op=true)){σ:St}{K:St->Prop}(h:aEff M o σ K):∃ (θ:D->D) (B:Nat->Option Ob) (Y:D),K (Ef θ B o.dst Y σ) /\
  ∀ τ:St,τ.b=σ.b->(∀ z∈o.op.operands,ev τ z=ev σ z)->∀ {x:Cx} {g:Gh} {a:Act} {w:World},x.P=M.P->(∀ d,o.dst=some d->d<x.N/\d<999)->Rel x g τ a w->∀ {K':Act->World->Prop} {Q:Exit->Act->World->Prop},(∀ g' a' w',Rel x g' (Ef θ B o.dst Y τ) a' w'->K' a' w')->o.wp x.P a w K' Q:=by
 unfold aEff at h
 split at h
 ·rename_i ob y σ' hop
  obtain ⟨θ,B,hσ,hc⟩:∃ (θ:D->D) (B:Nat->Option Ob),σ'=⟨fun i=>θ (σ.t i),B⟩/\∀ τ:St,τ.b=σ.b->(∀ z∈o.op.operands,ev τ z=ev σ z)->aop2 M.P τ o.dst o.op=some (ob,y,⟨fun i=>θ (τ.t i),B⟩):=by
   rcases hdd with ⟨d,hdd⟩|⟨hdd,hst⟩
   ·rw [hdd] at hop ⊢;exact aop2_fx hop
   ·rw [hdd] at hop ⊢;exact aop2_fxS hst hop
  subst hσ;refine ⟨θ,B,y,h.2,fun τ hτ hv x g a w hx hd hr K' Q hK=>?_⟩
  have hop':=hc τ hτ hv;rw [<- hx] at hop'
  obtain ⟨w',g',r0,r1⟩:=aop2_ok hop' h.1 (fun d q=>lt_isP (hd d q).2) hr
  unfold Oper.wp;rcases r1 with ⟨r,r1,r2⟩|⟨r1,r2⟩
  ·rw [r1,Oper.upon_value]
   exact hK _ _ _ (r0.put r2 o.dst (fun d q=>(hd d q).1))
  ·rw [r1,Oper.upon_skip]
   exact hK _ _ _ (r0.put (y:=y) (v:=undef) (by rw [r2];trivial) o.dst (fun d q=>(hd d q).1))
 ·unfold ACallE at h
  split at h
  ·rename_i q0 f0 caps0 ops0 hcal0
   obtain ⟨d,hdd⟩:∃ d,o.dst=some d:=by
    rcases hdd with hdd|⟨-,hst⟩
    ·exact hdd
    ·unfold Ws at hst
     split at hst
     ·rename_i q;rw [q] at hcal0;cases hcal0
     ·cases hst
   split at h
   ·rename_i o1 σ1 hprep
    split at h
    ·rename_i o0 f caps ops hcal
     split at h
     ·rename_i o2 ars gs bs harg
      obtain ⟨h0,h1,h2,h3,h4,h5,r0,u0,hF,hpu,hlen,hre⟩:=h;obtain ⟨θ1,B1,hs1⟩:=Z5 _ 0 hprep;have e1:=hs1 σ rfl (fun _ _=>rfl)
      simp only [hprep] at e1
      injection e1 with e1;injection e1 with _ e1
      split at hre
      ·rename_i ob2 σ2 hro
       obtain ⟨θ2,B2,hs2⟩:=UV gs hro;have e2:=hs2 _ rfl trivial;simp only [hro] at e2
       injection e2 with e2;injection e2 with _ e2
       have hEf:∀ τ:St,(⟨fun i=>θ2 ((((⟨fun i=>θ1 (τ.t i),B1⟩:St).cal (o.dst.getD 999) gs r0 u0).put o.dst (shA (o.dst.getD 999) r0)).t i),B2⟩:St)=Ef (fun y=>θ2 (scT (qCal (o.dst.getD 999) gs u0) (θ1 y))) B2 o.dst (θ2 (shA (o.dst.getD 999) r0)) τ:=fun τ=>by
        unfold Ef;rw [hdd];simp only [St.put,St.cal]
        congr 1
        funext i
        split<;>rfl
       refine ⟨fun y=>θ2 (scT (qCal (o.dst.getD 999) gs u0) (θ1 y)),B2,θ2 (shA (o.dst.getD 999) r0),?_,fun τ hτ hv x g a w hx hd hr K' Q hK=>?_⟩
       ·rw [<- hEf σ,<- e1,<- e2];exact hre.2
       ·have p1:=hs1 τ hτ (fun z hz=>hv z (Wf hcal0 z hz))
        simp only at p1
        have hv1:∀ z∈o.op.operands,ev ⟨fun i=>θ1 (τ.t i),B1⟩ z=ev σ1 z:=fun z hz=>by rw [e1];exact ev_th (hv z hz)
        have hb1:(⟨fun i=>θ1 (τ.t i),B1⟩:St).b=σ1.b:=by rw [e1]
        refine VQ (K0:=fun s=>s=Ef (fun y=>θ2 (scT (qCal (o.dst.getD 999) gs u0) (θ1 y))) B2 o.dst (θ2 (shA (o.dst.getD 999) r0)) τ) hx ?_ hd hr (fun σ' g' a' w' q1 q2=>by subst q2;exact hK g' a' w' q1)
        unfold Wc;simp only [(XS o.op hv).trans hcal0,p1,(XS o.op hv1).trans hcal,(vE hb1 (M.md f0) ops 0 (fun z hz=>hv1 z (Wf hcal z hz))).trans harg]
        refine ⟨h0,h1,h2,h3,h4,h5,_,hF,?_⟩
        rintro r outs ⟨rfl,rfl⟩
        refine ⟨hpu,hlen,?_⟩;have p2:=hs2 (((⟨fun i=>θ1 (τ.t i),B1⟩:St).cal (o.dst.getD 999) gs r outs).put o.dst (shA (o.dst.getD 999) r)) (by rw [St.put_b,St.put_b];unfold St.cal;have hb2:B1=σ1.b:=hb1;simp only [hb2]) trivial
        simp only at p2
        simp only [p2];exact ⟨hre.1,hEf τ⟩
      ·exact hre.elim
     ·exact h.elim
    ·exact h.elim
   ·exact h.elim
  ·exact h.elim
def valD(σ:St)(o:Oper):D:=match o.dst with|some d=>σ.t d|none=>.un
theorem xaI{M:Md}{ops:Array Oper}{σ τ:St}:∀ {l:List Oper},aFlQ M ops σ τ l->∀ o∈l,∃ d,o.dst=some d/\τ.t d=σ.t d/\aqst M ops o τ (fun τ'=>τ'.t d=σ.t d)
 | [],_,o,ho=>by cases ho
 | o'::r,h,o,ho=>by
  simp only [aFlQ] at h
  rcases List.mem_cons.1 ho with rfl|ho
  ·obtain ⟨q,-⟩:=h
   split at q
   ·rename_i d hd
    exact ⟨d,hd,q.1,q.2⟩
   ·exact q.elim
  ·exact xaI h.2 o ho
def dstB(ops:Array Oper)(m:Nat):Bool:=(List.range m).all fun i=>(List.range m).all fun j=>i==j||match ops[i]?,ops[j]? with
 | some a,some b=>a.dst.isNone||a.dst != b.dst
 | _,_=>false
theorem Zm{M:Md}{P:Program}(hP:M.P=P){N:Nat}{ops:Array Oper}{m:Nat}{fx:List Nat}{fl:Nat->Nat->Bool}(hc:chk N ops=true)(hd:dstB ops m=true) :
  ∀ (tr:Tr) (al dn:List Nat) (listed:Array Bool) (acc:List (Nat×Oper)) (K:St->Prop) (σ:St),ordB ops m fx fl tr al dn listed=true->(∀ p∈acc,ops[p.1]?=some p.2/\p.1<m/\p.1∈dn/\fx.contains p.1=false) ->
   aqsN M ops fl K tr acc σ->tr.isNo=false->∃ (τ:St) (Ls:List Fx->Prop),K τ/\WK P N ops τ tr Ls σ/\(∃ es,Ls es)/\(∀ es,Ls es->∀ e∈es,FxOk ops m e/\fx.contains e.i=true)/\∀ p∈acc,∀ es,Ls es->FlC P N ops p.1 (valD σ p.2) p.2 es σ
 | .nil,al,dn,listed,acc,K,σ,hB,hacc,h,_=>⟨σ,fun es=>es=[],h,rfl,⟨[],rfl⟩,fun es hes e he=>(by subst hes;cases he),fun p hp es hes=>by subst hes;trivial⟩
 | .no,al,dn,listed,acc,K,σ,hB,hacc,h,hn=>by cases hn
 | .fl i t,al,dn,listed,acc,K,σ,hB,hacc,h,_=>by
  unfold aqsN at h
  cases ho:ops[i]? with
  | none=>rw [Array.getElem?_toList,ho] at h;exact h.elim
  | some o=>
  rw [Array.getElem?_toList,ho] at h
  simp only at h
  simp only [ordB,ho,Bool.and_eq_true,decide_eq_true_eq,Bool.not_eq_true'] at hB
  obtain ⟨⟨⟨⟨⟨⟨-,him⟩,hnd⟩,hr⟩,hp⟩,hB0,hB1⟩,hB2⟩:=hB;have hni:i∉dn:=by simpa using hnd
  obtain ⟨d,hod⟩:∃ d,o.dst=some d:=by
   cases q:o.dst with
   | none=>rw [q] at hB0;cases hB0
   | some d=>exact ⟨d,rfl⟩
  rw [hod] at hB0
  simp only [Bool.and_eq_true,Bool.not_eq_true'] at hB0
  have hself:∀ d',o.dst=some d'->d'∉o.looksAt ops:=fun d' hd'=>by
   rw [hod] at hd';injection hd' with hd';subst hd'
   simpa using hB0.1
  have hdis:∀ k ok,ops[k]?=some ok->k<m->k≠i->∀ d,o.dst=some d->ok.dst≠some d:=fun k ok hk hkm hki d hd' e=>by
   have:=List.all_eq_true.1 (List.all_eq_true.1 hd k (List.mem_range.2 hkm)) i (List.mem_range.2 him)
   simp [hk,ho,hki,e,hd'] at this
  have hlk:∀ p∈acc,∀ d',o.dst=some d'->d'∉p.2.looksAt ops:=fun p hp d' hd'=>by
   obtain ⟨q1,q2,q3,q4⟩:=hacc p hp;rw [hod] at hd';injection hd' with hd';subst hd'
   have:=List.all_eq_true.1 hB0.2 p.1 q3
   simpa [q1] using this
  have hpi:∀ p∈acc,p.1≠i:=fun p hp e=>hni (e ▸ (hacc p hp).2.2.1)
  have hvd:∀ (τ:St) (z:D),∀ p∈acc,valD (τ.put o.dst z) p.2=valD τ p.2:=fun τ z p hp=>by
   obtain ⟨q1,q2,q3,q4⟩:=hacc p hp;unfold valD;cases hpd:p.2.dst with
   | none=>rfl
   | some d'=>
    have:d'≠d:=fun e=>hdis p.1 p.2 q1 q2 (hpi p hp) d hod (by rw [hpd,e])
    simp [St.put,hod,this]
  obtain ⟨y,hy,hK⟩:=aqst_yl hP hc ⟨i,ho⟩ h;obtain ⟨τ,Ls,g0,h1,hn1,h2,h3⟩:=Zm hP hc hd t [] (i::dn) _ ((i,o)::acc) K _ hB2 (fun p hpm=>by
   rcases List.mem_cons.1 hpm with rfl|hpm
   ·exact ⟨ho,him,by simp,hp⟩
   ·obtain ⟨q1,q2,q3,q4⟩:=hacc p hpm
    exact ⟨q1,q2,List.mem_cons_of_mem _ q3,q4⟩) hK (by cases t<;>first|rfl|(simp [ordB] at hB2;done))
  have hne:∀ es,Ls es->∀ e∈es,FxOk ops m e/\e.i≠i:=fun es hes e he=>⟨(h2 es hes e he).1,fun q=>by
   have:=(h2 es hes e he).2;rw [q,hp] at this;cases this⟩
  refine ⟨τ,Ls,g0,⟨o,ho,y,hy,fun es hes=>?_,h1⟩,hn1,h2,fun p hpm es hes=>?_⟩
  ·have q:=h3 (i,o) (by simp) es hes
   have hv:valD (σ.put o.dst y) o=y:=by simp [valD,hod,St.put]
   rw [hv] at q
   exact FlC.unput ho him hself es σ y (hne es hes) q
  ·have q:=h3 p (List.mem_cons_of_mem _ hpm) es hes
   rw [hvd σ y p hpm] at q
   exact FlC.unput ho him (hlk p hpm) es σ y (hne es hes) q
 | .fx i t r,al,dn,listed,acc,K,σ,hB,hacc,h,_=>by
  unfold aqsN at h
  cases ho:ops[i]? with
  | none=>rw [Array.getElem?_toList,ho] at h;exact h.elim
  | some o=>
  rw [Array.getElem?_toList,ho] at h
  simp only at h
  simp only [ordB,ho,Bool.and_eq_true,decide_eq_true_eq,Bool.not_eq_true',Option.isNone_iff_eq_none] at hB
  obtain ⟨⟨⟨⟨⟨⟨⟨him,hnd⟩,hr⟩,hp⟩,hB0,⟨hgd,-⟩,hdn⟩,hlen⟩,hB2⟩,hB3⟩:=hB;have hni:i∉dn:=by simpa using hnd
  have hdd:(∃ d,o.dst=some d)\/(o.dst=none/\Ws o.op=true):=by
   cases q:o.dst with
   | none=>rw [q] at hB0;exact .inr ⟨rfl,hB0⟩
   | some d=>exact .inl ⟨d,rfl⟩
  have hdis:∀ k ok,ops[k]?=some ok->k<m->k≠i->∀ d,o.dst=some d->ok.dst≠some d:=fun k ok hk hkm hki d hd' e=>by
   have:=List.all_eq_true.1 (List.all_eq_true.1 hd k (List.mem_range.2 hkm)) i (List.mem_range.2 him)
   simp [hk,ho,hki,e,hd'] at this
  have hpi:∀ p∈acc,p.1≠i:=fun p hp e=>hni (e ▸ (hacc p hp).2.2.1)
  simp only [aPivN] at h
  obtain ⟨θ,B,y,⟨hflo,hK⟩,hrun⟩:=aEff_fx hdd h;have hdN:∀ d,o.dst=some d->d<N/\d<999:=fun d q=>XA hc ho q
  have hS:SoundP P N ops o (Ef θ B o.dst y) σ:=by
   intro σ1 e1 e2 x g a w hx hN hr;refine ⟨by simp [Region.wanted,hgd],fun K Q hKK=>?_⟩
   subst hP;rw [<- hx];refine hrun σ1 e2 (z7 e1) hx (fun d q=>by rw [hN];exact hdN d q) hr fun g' a' w' h'=>hKK _ _ _ h'
  obtain ⟨τ,Ls1,⟨gA,g0⟩,h1,⟨es0,hes0⟩,h2,h3⟩:=Zm hP hc hd t [] (i::dn) _ (acc.filter fun p=>fl i p.1) _ _ hB2 (fun p hpm=>by
   obtain ⟨q1,q2,q3,q4⟩:=hacc p (List.mem_filter.1 hpm).1;exact ⟨q1,q2,List.mem_cons_of_mem _ q3,q4⟩) hK (by cases t<;>first|rfl|(simp [ordB] at hB2;done))
  obtain ⟨Ls2,k1,k2,k3⟩:∃ Ls2:List Fx->Prop,WK P N ops τ r Ls2 σ/\(∀ es,Ls2 es->∀ e∈es,FxOk ops m e/\fx.contains e.i=true)/\∀ p∈acc,∀ es,Ls2 es->FlC P N ops p.1 (valD σ p.2) p.2 es σ:=by
   cases hno:r.isNo with
   | true=>
    refine ⟨fun _=>False,?_,fun _ q=>q.elim,fun _ _ _ q=>q.elim⟩
    cases r<;>first|trivial|(cases hno;done)
   | false=>
    obtain ⟨τ',Ls2,m0,m1,-,m2,m3⟩:=Zm hP hc hd r (i::al) dn listed acc _ σ hB3 hacc gA hno;have:τ'=τ:=m0;subst this;exact ⟨Ls2,m1,m2,m3⟩
  have hfx:FxOk ops m ⟨i,Ef θ B o.dst y,θ⟩:=fun τ k ok z hk hkm hki=>Ef_put τ ok.dst z (fun q1 q2=>by cases hod:o.dst with|none=>exact q1 (q2.trans hod)|some d0=>exact hdis k ok hk hkm hki d0 hod (q2.trans hod))
  refine ⟨τ,fun es=>(∃ es',es=⟨i,Ef θ B o.dst y,θ⟩::es'/\Ls1 es')\/Ls2 es,g0,⟨⟨o,ho,⟨i,Ef θ B o.dst y,θ⟩,Ls1,rfl,hS,⟨es0,hes0⟩,fun es q=>.inl ⟨es,rfl,q⟩,h1⟩,Ls2,fun es q=>.inr q,k1⟩,⟨_,.inl ⟨es0,rfl,hes0⟩⟩,fun es q e he=>?_,fun p hpm es q=>?_⟩
  ·rcases q with ⟨es',rfl,q⟩|q
   ·rcases List.mem_cons.1 he with rfl|he
    ·exact ⟨hfx,hp⟩
    ·exact h2 es' q e he
   ·exact k2 es q e he
  ·rcases q with ⟨es',rfl,q⟩|q
   ·obtain ⟨q1,q2,q3,q4⟩:=hacc p hpm
    have hb:=List.all_eq_true.1 hdn p.1 q3;simp only [q1,q4,Bool.false_or,Bool.or_eq_true] at hb
    rcases hb with hb|hb
    ·exact .inl hb
    ·right
     have hpf:p∈acc.filter fun p=>fl i p.1:=List.mem_filter.2 ⟨hpm,hb⟩
     obtain ⟨d',e1,e3,e2⟩:=xaI hflo p.2 (List.mem_map.2 ⟨p,hpf,rfl⟩);have hv:valD σ p.2=σ.t d':=by simp [valD,e1]
     have hθ:(Ef θ B o.dst y σ).t d'=θ (σ.t d'):=by
      cases hod:o.dst with
      | none=>simp [Ef,St.put]
      | some d=>
       have hne:d'≠d:=fun e=>hdis p.1 p.2 q1 q2 (hpi p hpm) d hod (by rw [e1,e])
       simp [Ef,St.put,hne]
     refine ⟨?_,?_,?_⟩
     ·rw [hv];exact hθ.symm.trans e3
     ·rw [hv]
      obtain ⟨y',hy',hKy⟩:=aqst_yl hP (N:=N) hc (o:=p.2) ⟨p.1,q1⟩ e2;have:y'=σ.t d':=by
       simpa [St.put,e1] using hKy
      rw [<- this];exact hy'
     ·have q':=h3 p hpf es' q
      have:valD (Ef θ B o.dst y σ) p.2=valD σ p.2:=by simp only [valD,e1];exact e3
      rw [this] at q'
      exact q'
   ·exact k3 p hpm es q
def drawQB(ops:Array Oper)(m:Nat)(fx:List Nat)(fl:Nat->Nat->Bool)(tr:Tr):Bool:=
 decide (m<=ops.size)&&(tr.len==m)&&!tr.isNo&&dstB ops m &&
 ((List.range ops.size).all fun i=>match ops[i]? with|some o=>o.after.all fun e=>!Region.binds .any e||decide (e.on<i)|none=>true) &&
 ((List.range ops.size).all fun j=>decide (j<m)||(((List.range m).all fun i=>ancB ops j ops.size i)&&(j==m||bnd ops j (j - 1)))) &&
 ordB ops m fx fl tr [] [] (Array.replicate ops.size false)
abbrev Plan:=Nat×List Nat×List (Nat×Nat)×Tr
def flF:List (Nat×Nat)->Nat->Nat->Bool
 | [],_,_=>false
 | (a,b)::r,i,j=>(i==a&&j==b)||flF r i j
def plF:List (Nat×Plan)->Nat->Option Plan
 | [],_=>none
 | (i,p)::r,n=>if n=i then some p else plF r n
def chkC(pl:List (Nat×Plan))(N:Nat):Code->Bool
 | .region id ops dr=>chk N ops&&(!dr||match plF pl id with
  | some (m,fx,fl,π)=>drawQB ops m fx (flF fl) π
  | none=>true)
 | .seq c d=>chkC pl N c&&chkC pl N d
 | .cond _ c d=>chkC pl N c&&chkC pl N d
 | .block _ c=>chkC pl N c
 | .loop c=>chkC pl N c
 | _=>true
def AC(M:Md)(N:Nat)(pl:List (Nat×Plan))(c:Code)(K:Exit->St->Prop)(σ:St):Prop:=
 chkC pl N c=true->∀ (x:Cx) (g:Gh) (a:Act) (w:World) (Q:Exit->Act->World->Prop),x.P=M.P->x.N=N->Rel x g σ a w->(∀ e σ' g' a' w',Rel x g' σ' a' w'->K e σ'->Q e a' w')->c.wp M.P Q a w
def ACL(M:Md)(N:Nat)(pl:List (Nat×Plan))(c:Code)(K:Exit->St->Prop)(σ:St):Prop:=AC M N pl (.loop c) K σ
def Zl(K':St->Prop)(K:Exit->St->Prop):Exit->St->Prop
 | .normal,σ=>K' σ
 | e,σ=>K e σ
def Yu(id:Nat)(K:Exit->St->Prop):Exit->St->Prop
 | .exit id',σ=>if id'=id then K .normal σ else K (.exit id') σ
 | e,σ=>K e σ
def condV(y:D)(A B:Prop):Prop:=match y with
 | .s (.bool t)=>(t=true->A)/\(t=false->B)
 | _=>False
section
variable {M:Md} {N:Nat} {pl:List (Nat×Plan)} {K:Exit->St->Prop} {σ:St}
theorem Rel.drew{x:Cx}{g:Gh}{a:Act}{w:World}(h:Rel x g σ a w):Rel x g σ a w.drew:=by
 have ev:Ev (fun _=>True) (fun p=>p) pAll pAll g g w w.drew:=⟨⟨fun b hb=>⟨hb,rfl⟩,fun b p hb _=>⟨hb,rfl⟩,fun b p o _ _=>⟨trivial,rfl⟩⟩,fun i _=>⟨rfl,rfl⟩,fun i _=>⟨rfl,trivial,rfl⟩⟩
 have:=h.ev ev ((Below.refl _ _).drew) (fun b _ _=>rfl) (fun b _ hs=>.inl hs) h.new h.own
 rwa [sc_all] at this
theorem AC_drawQ{id:Nat}{l:List Oper}(m:Nat)(fx:List Nat)(fl:Nat->Nat->Bool)(π:Tr)(hB:drawQB l.toArray m fx fl π=true)(hc:chk N l.toArray=true)
  (h:aqsN M l.toArray fl (aops M l.toArray (K .normal) (l.drop m)) π [] σ):∀ (x:Cx) (g:Gh) (a:Act) (w:World) (Q:Exit->Act->World->Prop),x.P=M.P->x.N=N->Rel x g σ a w->(∀ e σ' g' a' w',Rel x g' σ' a' w'->K e σ'->Q e a' w')->(Code.region id l.toArray true).wp M.P Q a w:=by
 intro x g a w Q hx hN hr hQ;unfold drawQB at hB
 simp only [Bool.and_eq_true,decide_eq_true_eq,beq_iff_eq,Bool.not_eq_true'] at hB
 obtain ⟨⟨⟨⟨⟨⟨b0,bl⟩,bn⟩,b1⟩,b2⟩,b3⟩,b4⟩:=hB;have hget:∀ j:Nat,l.toArray[j]?=l[j]?:=fun j=>by simp
 have hsz:l.toArray.size=l.length:=by simp
 have hb:∀ i o,l.toArray[i]?=some o->∀ e∈o.after,Region.binds .any e=true->e.on<i:=fun i o ho e he hbd=>by
  have hi:=(Array.getElem?_eq_some_iff.1 ho).1;have:=XT b2 hi;simp only [ho] at this
  have:=Array.all_eq_true'.1 this e he
  simpa [hbd] using this
 have htl:∀ j,m<=j->j<l.toArray.size->∀ i,i<m->ancB l.toArray j l.toArray.size i=true:=fun j hj hjs i hi=>by
  have:=XT b3 hjs;simp only [Bool.or_eq_true,decide_eq_true_eq,Bool.and_eq_true] at this
  rcases this with q|q
  ·omega
  ·exact XT q.1 hi
 have htc:∀ j,m<j->j<l.toArray.size->bnd l.toArray j (j - 1)=true:=fun j hj hjs=>by
  have:=XT b3 hjs;simp only [Bool.or_eq_true,decide_eq_true_eq,Bool.and_eq_true,beq_iff_eq] at this
  rcases this with q|⟨-,q|q⟩
  ·omega
  ·omega
  ·exact q
 obtain ⟨τ,Ls,hτ,h1,-,h2,-⟩:=Zm (M:=M) rfl (N:=N) hc b1 π [] [] _ [] _ σ b4 (fun p hp=>by cases hp) h bn
 have hA:=(v7 (P:=M.P) (N:=N) htl π [] [] _ Ls σ b4 h2 (by simp) (fun k o hk hl=>by
  rw [Array.getD_eq_getD_getElem?] at hl
  rcases Nat.lt_or_ge k (Array.replicate l.toArray.size false).size with q|q
  ·rw [Array.getElem?_eq_getElem q] at hl;simp at hl
  ·rw [Array.getElem?_eq_none q] at hl;simp at hl) h1).1 rfl
 refine wp_region_any M.mix ?_;have hfin:=YG (K:=fun σ'=>σ'=τ) (Q:=Q) (n:=(l.drop m).length) hx hN b0 (fun σ' g' a' w' listed hs hl1 hl2 hr' hK'=>by
  subst hK';have hK':=hτ;refine VD hb (l.drop m) m listed a' w' (by rw [hsz] at b0 ⊢;simp;omega) (fun j hj=>by rw [hget];simp) (fun j hj hjs=>htc j hj hjs) hs hl1 hl2 ?_
  subst hN;rw [<- hx];exact YJ hx hc (fun σ' g' a' w' hr' hK=>hQ _ _ _ _ _ hr' hK) _ (fun o ho d hd=>by
   obtain ⟨j,hj⟩:=List.mem_iff_getElem?.1 ho;rw [List.getElem?_drop] at hj
   exact XA hc (j:=m+j) (o:=o) (by rw [hget];exact hj) hd) _ _ _ _ hr' hK') π.len (Array.replicate l.toArray.size false) Ls σ g a w.drew (by simp) (fun j hj hjs=>by simp at hjs ⊢;simp [hjs]) hr.drew hA
 have e:(l.drop m).length+π.len=l.toArray.size:=by rw [bl];simp at b0 ⊢;omega
 rw [e] at hfin
 exact hfin
def stp(M:Md)(N:Nat)(pl:List (Nat×Plan)):Code->(Exit->St->Prop)->St->Prop
 | .skip,K,σ=>K .normal σ
 | .exit id,K,σ=>K (.exit id) σ
 | .ret,K,σ=>K .ret σ
 | .seq c d,K,σ=>stp M N pl c (Zl (AC M N pl d K) K) σ
 | .block id c,K,σ=>stp M N pl c (Yu id K) σ
 | .cond z c d,K,σ=>condV (ev σ z) (AC M N pl c K σ) (AC M N pl d K σ)
 | .region id ops dr,K,σ=>match dr with
  | false=>aops (M.at id) ops (K .normal) ops.toList σ
  | true=>match plF pl id with
   | some (m,fx,fl,π)=>aqsN (M.at id) ops (flF fl) (aops (M.at id) ops (K .normal) (ops.toList.drop m)) π [] σ
   | none=>False
 | .loop c,K,σ=>ACL M N pl c K σ
 | _,_,_=>False
theorem stp_ok:∀ (c:Code) (K:Exit->St->Prop) (σ:St),stp M N pl c K σ->AC M N pl c K σ
 | .skip,K,σ,h=>fun _ x g a w Q _ _ hr hQ=>wp_skip (hQ _ _ _ _ _ hr h)
 | .exit id,K,σ,h=>fun _ x g a w Q _ _ hr hQ=>wp_exit (hQ _ _ _ _ _ hr h)
 | .ret,K,σ,h=>fun _ x g a w Q _ _ hr hQ=>wp_ret (hQ _ _ _ _ _ hr h)
 | .seq c d,K,σ,h=>by
  intro hck x g a w Q hx hN hr hQ;simp only [chkC,Bool.and_eq_true] at hck
  refine wp_seq (stp_ok c _ σ h hck.1 x g a w _ hx hN hr fun e σ' g' a' w' hr' hK=>?_)
  cases e with
  | normal=>exact hK hck.2 x g' a' w' Q hx hN hr' hQ
  | exit id=>exact hQ _ _ _ _ _ hr' hK
  | goto l=>exact hQ _ _ _ _ _ hr' hK
  | ret=>exact hQ _ _ _ _ _ hr' hK
  | panic c=>exact hQ _ _ _ _ _ hr' hK
  | outgrown=>exact hQ _ _ _ _ _ hr' hK
 | .block id c,K,σ,h=>by
  intro hck x g a w Q hx hN hr hQ;simp only [chkC] at hck
  refine wp_block (stp_ok c _ σ h hck x g a w _ hx hN hr fun e σ' g' a' w' hr' hK=>?_)
  cases e with
  | exit id'=>
   simp only [Exit.inBlock];simp only [Yu] at hK
   split
   ·rename_i e;rw [if_pos e] at hK;exact hQ _ _ _ _ _ hr' hK
   ·rename_i e;rw [if_neg e] at hK;exact hQ _ _ _ _ _ hr' hK
  | normal=>exact hQ _ _ _ _ _ hr' hK
  | goto l=>exact hQ _ _ _ _ _ hr' hK
  | ret=>exact hQ _ _ _ _ _ hr' hK
  | panic c=>exact hQ _ _ _ _ _ hr' hK
  | outgrown=>exact hQ _ _ _ _ _ hr' hK
 | .cond z c d,K,σ,h=>by
  intro hck x g a w Q hx hN hr hQ;simp only [chkC,Bool.and_eq_true] at hck
  simp only [stp,condV] at h
  split at h
  ·rename_i t hz
   have hv:=Xj hr z;rw [hz] at hv
   have hv:a.eval z=.bool t:=Rep.s_inv (show Rep g.S g.up w none (.s (.bool t)) _ from hv);exact wp_cond_split hv (fun e=>h.1 e hck.1 x g a w Q hx hN hr hQ) (fun e=>h.2 e hck.2 x g a w Q hx hN hr hQ)
  ·exact h.elim
 | .region id ⟨l⟩ dr,K,σ,h=>by
  intro hck x g a w Q hx hN hr hQ;simp only [chkC,Bool.and_eq_true] at hck
  cases dr with
  | false=>
   simp only [stp] at h
   subst hN;rw [<- hx];refine wp_region_lit (YJ (M:=M.at id) hx hck.1 (fun σ' g' a' w' hr' hK=>hQ _ _ _ _ _ hr' hK) l (fun o ho d hd=>?_) σ g a w hr h)
   obtain ⟨j,hj⟩:=List.mem_iff_getElem?.1 ho;exact XA hck.1 (j:=j) (o:=o) (by simpa using hj) hd
  | true=>
   simp only [stp] at h
   simp only [Bool.not_true,Bool.false_or] at hck
   split at h
   ·rename_i m fx fl π hp
    rw [hp] at hck
    exact AC_drawQ (M:=M.at id) m fx (flF fl) π hck.2 hck.1 h x g a w Q hx hN hr hQ
   ·exact h.elim
 | .loop c,K,σ,h=>h
 | .rangeFunc _ _ _ _,K,σ,h=>h.elim
 | .goto _,K,σ,h=>h.elim
theorem xj{c:Code}(h:stp M N pl c K σ):AC M N pl c K σ:=stp_ok c K σ h
theorem xd{c:Code}(J:Nat->St->Prop)(n0:Nat)(h0:J n0 σ)(round:∀ n σ,J n σ->∀ K':St->Prop,(∀ n' σ',n'<n->J n' σ'->K' σ')->AC M N pl c (Zl K' K) σ):ACL M N pl c K σ:=by
 intro hck x g a w Q hx hN hr hQ;simp only [chkC] at hck
 refine wp_loop_ghost (fun n a w=>∃ σ g,Rel x g σ a w/\J n σ) n0 ⟨σ,g,hr,h0⟩ ?_
 rintro n a w ⟨σ,g,hr,hJ⟩
 refine round n σ hJ (fun σ'=>∃ n',n'<n/\J n' σ') (fun n' σ' h1 h2=>⟨n',h1,h2⟩) hck x g a w _ hx hN hr fun e σ' g' a' w' hr' hK=>?_
 cases e with
 | normal=>
  obtain ⟨n',hlt,hJ'⟩:=hK;exact ⟨n',hlt,σ',g',hr',hJ'⟩
 | exit id=>exact hQ _ _ _ _ _ hr' hK
 | goto l=>exact hQ _ _ _ _ _ hr' hK
 | ret=>exact hQ _ _ _ _ _ hr' hK
 | panic c=>exact hQ _ _ _ _ _ hr' hK
 | outgrown=>exact hQ _ _ _ _ _ hr' hK
theorem vQ{c:Code}(h:AC M N pl (.loop c) K σ):ACL M N pl c K σ:=h
theorem Wb{c:Code}{σ':St}(hw:∀ (x:Cx) (g:Gh) (a:Act) (w:World),x.P=M.P->x.N=N->Rel x g σ a w->∃ g',Rel x g' σ' a w)(h:AC M N pl c K σ'):AC M N pl c K σ:=by
 intro hck x g a w Q hx hN hr hQ;obtain ⟨g',hr'⟩:=hw x g a w hx hN hr;exact h hck x g' a w Q hx hN hr' hQ
theorem y8{c:Code}(id:Nat)(o:Ob)(hb:σ.b id=some o)(hd:deepO o=true)(h:AC M N pl c K (σ.fr id o)):AC M N pl c K σ:=Wb (fun x g a w _ _ hr=>hr.freeze id o hb hd) h
def Wk(M:Md)(N:Nat)(σ σ':St):Prop:=∀ (x:Cx) (g:Gh) (a:Act) (w:World),x.P=M.P->x.N=N->Rel x g σ a w->∃ g',Rel x g' σ' a w
theorem Xw{c:Code}(J:Nat->St->Prop)(n0:Nat)(h0:J n0 σ)(round:∀ n σ,J n σ->∀ K':St->Prop,(∀ n' σ' σ'',n'<n->Wk M N σ' σ''->J n' σ''->K' σ')->AC M N pl c (Zl K' K) σ):ACL M N pl c K σ:=by
 intro hck x g a w Q hx hN hr hQ;simp only [chkC] at hck
 refine wp_loop_ghost (fun n a w=>∃ σ g,Rel x g σ a w/\J n σ) n0 ⟨σ,g,hr,h0⟩ ?_
 rintro n a w ⟨σ,g,hr,hJ⟩
 refine round n σ hJ (fun σ'=>∃ n' σ'',n'<n/\Wk M N σ' σ''/\J n' σ'') (fun n' σ' σ'' h1 h2 h3=>⟨n',σ'',h1,h2,h3⟩) hck x g a w _ hx hN hr fun e σ' g' a' w' hr' hK=>?_
 cases e with
 | normal=>
  obtain ⟨n',σ'',hlt,hw,hJ'⟩:=hK;obtain ⟨g'',hr''⟩:=hw x g' a' w' hx hN hr';exact ⟨n',hlt,σ'',g'',hr'',hJ'⟩
 | exit id=>exact hQ _ _ _ _ _ hr' hK
 | goto l=>exact hQ _ _ _ _ _ hr' hK
 | ret=>exact hQ _ _ _ _ _ hr' hK
 | panic c=>exact hQ _ _ _ _ _ hr' hK
 | outgrown=>exact hQ _ _ _ _ _ hr' hK
theorem Wk_open(id i j nm:Nat){e k:Nat}{rows:List (List D)}{row:List D}{d:D}{o:Ob}(hb:σ.b id=some (.arr e k rows))(hi:rows[i]?=some row)(hd:row[j]?=some d)(hu:unfD d=some o)(hne:nm≠id)(hnP:isP nm=false):Wk M N σ (σ.opE id e k rows i j nm d o):=fun x g a w _ _ hr=>hr.openE hb i j nm hi hd hu hne hnP
theorem Xp{c:Code}(id i j nm:Nat){e k:Nat}{rows:List (List D)}{row:List D}{d:D}{o:Ob}(hb:σ.b id=some (.arr e k rows))(hi:rows[i]?=some row)(hd:row[j]?=some d)(hu:unfD d=some o)(hne:nm≠id)(hnP:isP nm=false)(h:AC M N pl c K (σ.opE id e k rows i j nm d o)):AC M N pl c K σ:=Wb (Wk_open id i j nm hb hi hd hu hne hnP) h
theorem vo(id nm:Nat){e k i j:Nat}{rows:List (List D)}{r d:D}{ob:Prop}(hb:σ.b id=some (.hol e k rows i j r))(hf:fdC σ r=some (ob,d))(ho:ob)(hr:idC r=some nm)(hne:nm≠id):Wk M N σ ((σ.sc (pOut [nm]) (pOut [nm])).setB id (.arr e k (rows.set i ((rows.getD i []).set j d)))):=fun x g a w _ _ hr'=>hr'.closeE hb hf ho hr hne
theorem AC_close{c:Code}(id nm:Nat){e k i j:Nat}{rows:List (List D)}{r d:D}{ob:Prop}(hb:σ.b id=some (.hol e k rows i j r))(hf:fdC σ r=some (ob,d))(ho:ob)(hr:idC r=some nm)(hne:nm≠id)(h:AC M N pl c K ((σ.sc (pOut [nm]) (pOut [nm])).setB id (.arr e k (rows.set i ((rows.getD i []).set j d))))):AC M N pl c K σ:=Wb (vo id nm hb hf ho hr hne) h
theorem yr{c:Code}(i:Nat){k:Nat}{rows:List (List D)}(hi:xz (σ.t i)=.sl k rows)(ho:oblT (σ.t i))(h:rows.length<=9223372036854775807->AC M N pl c K σ):AC M N pl c K σ:=by
 intro hck x g a w Q hx hN hr hQ;have hb:=zP (hr.tm i) ho;rw [hi] at hb
 obtain ⟨_,_,_,h1,h2⟩:=Rep.sl_shape (show Rep g.S g.up w none (.sl k rows) _ from hb);exact h (by unfold maxLen at h2;omega) hck x g a w Q hx hN hr hQ
end
end
end Go.Proofs.YtmnokalddmlogaaGreat
