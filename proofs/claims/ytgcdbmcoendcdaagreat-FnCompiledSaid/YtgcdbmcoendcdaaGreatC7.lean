/- Parts of the proof. -/
import Derived.Test.YtgcdbmcoendcdaaGreatC6
set_option maxRecDepth 100000
set_option maxHeartbeats 8000000
set_option linter.unusedVariables false
set_option linter.unusedSimpArgs false
namespace Go.Proofs.YtgcdbmcoendcdaaGreat
section
open Arb
mutual
def wz{α:Type}(f:α->Nat):Arb α->Nat
 | .mk a l=>f a+wzL f l
def wzL{α:Type}(f:α->Nat):List (Arb α)->Nat
 | []=>0
 | t::l=>wz f t+wzL f l
end
theorem uZ{α:Type}(f:α->Nat)(a:α)(l:List (Arb α)):wz f (.mk a l)=f a+wzL f l:=by rw [wz]
theorem uj{α:Type}(f:α->Nat):wzL f []=0:=by rw [wzL]
theorem wE{α:Type}(f:α->Nat)(t:Arb α)(l:List (Arb α)):wzL f (t::l)=wz f t+wzL f l:=by rw [wzL]
theorem wz1{α:Type}(f:α->Nat)(a:Arb α):wzL f [a]=wz f a:=by rw [wE,uj,Nat.add_zero]
theorem wz2{α:Type}(f:α->Nat)(a b:Arb α):wzL f [a,b]=wz f a+wz f b:=by rw [wE,wz1]
theorem wz3{α:Type}(f:α->Nat)(a b c:Arb α):wzL f [a,b,c]=wz f a+wz f b+wz f c:=by rw [wE,wz2,Nat.add_assoc]
theorem wzL_app{α:Type}(f:α->Nat)(l m:List (Arb α)):wzL f (l++m)=wzL f l+wzL f m:=by
 induction l with
 | nil=>rw [List.nil_append,uj,Nat.zero_add]
 | cons t l ih=>rw [List.cons_append,wE,wE,ih,Nat.add_assoc]
theorem wz_mem{α:Type}(f:α->Nat){t:Arb α}{l:List (Arb α)}(h:t∈l):wz f t<=wzL f l:=by
 induction l with
 | nil=>cases h
 | cons x l ih=>
  rw [wE];rcases List.mem_cons.1 h with rfl|h
  .omega
  .have:=ih h;omega
def sumN{α:Type}(f:α->Nat):List α->Nat
 | []=>0
 | x::l=>f x+sumN f l
theorem sumN_app{α:Type}(f:α->Nat)(l m:List α):sumN f (l++m)=sumN f l+sumN f m:=by
 induction l with
 | nil=>rw [List.nil_append,sumN,Nat.zero_add]
 | cons t l ih=>rw [List.cons_append,sumN,sumN,ih,Nat.add_assoc]
theorem wz_lay{α β:Type}(f:α->List Int->β)(w:α->Nat)(g:β->Nat)(h:∀ a l,g (f a l)=w a):∀ (t:Arb α) (b:Nat),sumN g (Arb.lay f b t)=wz w t:=fun t=>by
 induction t using Arb.ind with
 | h a l ih=>
  intro b;rw [uZ,Arb.lay,sumN,h];have key:∀ (l:List (Arb α)),(∀ t∈l,∀ b,sumN g (Arb.lay f b t)=wz w t)->∀ b,sumN g (layL f b l)=wzL w l:=fun l=>by
   induction l with
   | nil=>intro _ b;rw [layL,uj];rfl
   | cons t l ihl=>intro hl b;rw [layL,sumN_app,wE,hl t (by simp),ihl (fun x hx=>hl x (by simp [hx]))]
  rw [key l ih]
def pk(a:PI):Nat:=if a.kind=2 then 1 else 0
def pvn(q:MPat):Nat:=(pnames q.nodes).length
def qz:List MPat->Nat
 | []=>0
 | q::l=>pvn q+qz l
def ek(a:EI):Nat:=qz a.pats
theorem qz_app(l m:List MPat):qz (l++m)=qz l+qz m:=by
 induction l with
 | nil=>rw [List.nil_append,qz,Nat.zero_add]
 | cons t l ih=>rw [List.cons_append,qz,qz,ih,Nat.add_assoc]
theorem xb7(xs:List DPNode):(pnames xs).length=sumN (fun x:DPNode=>if x.kind=2 then 1 else 0) xs:=by
 induction xs with
 | nil=>rfl
 | cons x xs ih=>
  rw [sumN,<- ih];unfold pnames;rw [List.filter_cons]
  by_cases h:x.kind=2
  .rw [if_pos (by simpa using h),if_pos h];simp;omega
  .rw [if_neg (by simpa using h),if_neg h];simp
theorem pvn_lay(p:PT):pvn (layP p)=wz pk p:=by
 unfold pvn layP;rw [xb7];exact wz_lay PI.node pk _ (fun a l=>rfl) p 0
theorem qz1(p:PT):qz [layP p]=wz pk p:=by rw [qz,pvn_lay];rfl
theorem pN_w{k:Int}(hk:k≠2)(n:Int)(s:ByteArray)(l:List PT):wz pk (pN k n s l)=wzL pk l:=by
 unfold pN;rw [uZ];unfold pk;rw [if_neg hk,Nat.zero_add]
theorem pN_2(n:Int)(s:ByteArray):wz pk (pN 2 n s [])=1:=by
 unfold pN;rw [uZ,uj];rfl
theorem eN_w(k a:Int)(s:ByteArray)(l:List ET):wz ek (eN k a s l)=wzL ek l:=by
 unfold eN;rw [uZ];show 0+_=_;rw [Nat.zero_add]
section
variable {T:List MTok} {e:Int}
def PW(T:List MTok)(s:PS)(r:PT×PS):Prop:=Mo T s r.2/\wz pk r.1+s.i<=r.2.i
def EW(T:List MTok)(s:PS)(r:ET×PS):Prop:=Mo T s r.2/\wz ek r.1+s.i<=r.2.i
theorem PW.leaf{s s':PS}(h:Mo T s s')(k n:Int)(x:ByteArray)(hk:k≠2:=by decide):PW T s (pN k n x [],s'):=⟨h,by have:=h.1;rw [pN_w hk,uj];simp only;omega⟩
theorem PW.var{s s':PS}(h:Mo T s s')(h1:s.i+1<=s'.i)(n:Int)(x:ByteArray):PW T s (pN 2 n x [],s'):=⟨h,by rw [pN_2];simp only;omega⟩
theorem PW.p0{s s':PS}(h:Mo T s s'):PW T s (P0,s'):=PW.leaf h 0 0 nS
section
variable {R:PS->PT×PS} (hR:∀ s,PW T s (R s))
include hR
omit hR in
theorem uD{c:Prop} [Decidable c] {s:PS}{a b:PT×PS}(h1:c->PW T s a)(h2:¬ c->PW T s b):PW T s (if c then a else b):=by
 by_cases h:c
 .rw [if_pos h];exact h1 h
 .rw [if_neg h];exact h2 h
theorem patom_w(n:Nat):∀ s,PW T s (z7 T e R n s):=by
 induction n with
 | zero=>intro s;exact PW.p0 (Mo.refl s)
 | succ n ih=>
  intro s;rw [z7];refine uD (fun h3=>uD (fun _=>PW.p0 (Mo.fault s 8)) (fun _=>PW.var (Mo.push (xS (by rw [h3];decide)).2 _) (Nat.le_refl _) _ _)) (fun _=>?_)
  refine uD (fun h1=>PW.leaf (Mo.advK h1 (by decide)) _ _ _) (fun _=>?_)
  refine uD (fun h4=>?_) (fun _=>?_)
  .have m1:=Mo.advK h4 (by decide)
   refine uD (fun _=>?_) (fun _=>PW.leaf m1 _ _ _)
   have b:=ih (advS s);rcases h:z7 T e R n (advS s) with ⟨a,s1⟩
   rw [h] at b
   obtain ⟨b1,b2⟩:=b;refine ⟨m1.trans b1,?_⟩;have q1:=b1.1;rw [xK] at b2 q1
   show wz pk (pN _ _ _ _)+s.i<=s1.i;rw [pN_w (by decide),wz1]
   simp only at b2 q1
   omega
  refine uD (fun h=>PW.leaf (Mo.advS h (xa (l:=[95]) (by simp))) _ _ _) (fun _=>?_)
  refine uD (fun h=>PW.leaf (Mo.advS h (xa (l:=[116,114,117,101]) (by simp))) _ _ _) (fun _=>?_)
  refine uD (fun h=>PW.leaf (Mo.advS h (xa (l:=[102,97,108,115,101]) (by simp))) _ _ _) (fun _=>?_)
  refine uD (fun h=>PW.leaf ((Mo.advS h (xa (l:=[91]) (by simp))).trans (Mo.take _ (xa (l:=[93]) (by simp)))) _ _ _) (fun _=>?_)
  refine uD (fun h=>PW.leaf ((Mo.advS h (xa (l:=[45]) (by simp))).trans (Mo.word _ (by decide))) _ _ _) (fun _=>?_)
  refine uD (fun h=>?_) (fun _=>PW.p0 (Mo.fault s 7))
  have m1:=Mo.advS h (xa (l:=[40]) (by simp))
  refine uD (fun h2=>PW.leaf (m1.trans (Mo.advS h2 (xa (l:=[41]) (by simp)))) _ _ _) (fun _=>?_)
  have b:=hR (advS s);rcases h1:R (advS s) with ⟨a,s1⟩
  rw [h1] at b
  obtain ⟨b1,b2⟩:=b;have q1:=b1.1;rw [xK] at b2 q1
  refine uD (fun h2=>?_) (fun _=>?_)
  .have c:=hR (advS s1)
   rcases h3:R (advS s1) with ⟨b',s2⟩
   rw [h3] at c
   obtain ⟨c1,c2⟩:=c;have q2:=c1.1;rw [xK] at c2 q2
   have t:=Mo.take (T:=T) (e:=e) s2 (xa (l:=[41]) (by simp))
   refine ⟨((m1.trans b1).trans ((Mo.advS h2 (xa (l:=[44]) (by simp))).trans c1)).trans t,?_⟩
   have:=t.1;show wz pk (pN _ _ _ _)+s.i<=(xf T e s2 (⟨#[41]⟩:ByteArray)).i;rw [pN_w (by decide),wz2]
   simp only at *
   omega
  .have t:=Mo.take (T:=T) (e:=e) s1 (xa (l:=[41]) (by simp))
   refine ⟨(m1.trans b1).trans t,?_⟩;have:=t.1;simp only at *
   omega
theorem patStep_w(s:PS):PW T s (uE T e R s):=by
 unfold uE;split
 .split
  rename_i a s1 h1;have b:=patom_w hR (e:=e) (T.length+1) s;rw [h1] at b
  split
  .rename_i h2
   split;rename_i b' s2 h3;have c:=hR (advS s1);rw [h3] at c
   obtain ⟨b1,b2⟩:=b;obtain ⟨c1,c2⟩:=c;rw [xK] at c2
   refine ⟨(b1.trans (Mo.advS h2 (xa (l:=[58,58]) (by simp)))).trans c1,?_⟩
   have q1:=c1.1;rw [xK] at q1
   have:=b1.1;show wz pk (pN _ _ _ _)+s.i<=s2.i;rw [pN_w (by decide),wz1,pN_w (by decide),wz2]
   simp only at *
   omega
  .exact b
 .exact PW.p0 (Mo.refl s)
end
theorem pat_w(k:Nat):∀ s,PW T s (patF T e k s):=by
 induction k with
 | zero=>
  intro s;unfold patF;split
  .split
   .exact PW.p0 (Mo.fault s 8)
   .exact PW.p0 (Mo.deep s _)
  .exact PW.p0 (Mo.refl s)
 | succ k ih=>intro s;exact patStep_w ih s
theorem EW.leaf{s s':PS}(h:Mo T s s')(k a:Int)(x:ByteArray):EW T s (eN k a x [],s'):=⟨h,by have:=h.1;rw [eN_w,uj];simp only;omega⟩
theorem EW.e0{s s':PS}(h:Mo T s s'):EW T s (E0,s'):=EW.leaf h 0 0 nS
section
variable {R:PS->ET×PS} (hR:∀ s,EW T s (R s))
include hR
theorem atom_w(s:PS):EW T s (zm T e R s):=by
 unfold zm;split
 .rename_i hb
  have m1:Mo T s (advS s):=Mo.adv (xS (Xr hb)).2;split
  .exact ⟨m1,by have:=m1.1;show wz ek (Arb.mk _ _)+_<=_;rw [uZ,uj];show 0+0+s.i<=(advS s).i;omega⟩
  .split
   .exact EW.leaf m1 _ _ _
   .split
    .exact EW.leaf m1 _ _ _
    .split
     .exact EW.leaf m1 _ _ _
     .split
      .exact EW.leaf (m1.trans (Mo.take _ (xa (l:=[93]) (by simp)))) _ _ _
      .split
       .split
        .rename_i h2;exact EW.leaf (m1.trans (Mo.advS h2 (xa (l:=[41]) (by simp)))) _ _ _
        .split
         rename_i a s1 h1;have b:=hR (advS s);rw [h1] at b
         obtain ⟨b1,b2⟩:=b;rw [xK] at b2
         split
         .rename_i h2
          split;rename_i b' s2 h3;have c:=hR (advS s1);rw [h3] at c
          obtain ⟨c1,c2⟩:=c;rw [xK] at c2
          have t:=Mo.take (T:=T) (e:=e) s2 (xa (l:=[41]) (by simp))
          refine ⟨((m1.trans b1).trans ((Mo.advS h2 (xa (l:=[44]) (by simp))).trans c1)).trans t,?_⟩
          have:=t.1;have:=c1.1;have:=b1.1;show wz ek (eN _ _ _ _)+_<=_;rw [eN_w,wz2];simp only at *
          omega
         .have t:=Mo.take (T:=T) (e:=e) s1 (xa (l:=[41]) (by simp))
          refine ⟨(m1.trans b1).trans t,?_⟩;have:=t.1;have:=b1.1;simp only at *
          omega
       .exact EW.leaf m1 _ _ _
 .exact EW.e0 (Mo.fault s 7)
omit hR in
theorem kidT_w(a b:ET):wz ek (kidT a b)<=wz ek a+wz ek b:=by
 obtain ⟨x,l⟩:=a;unfold kidT;rw [uZ,wz1,uZ];show ek x+_<=_;omega
theorem app_w(n:Nat):∀ (bare:Bool) (a:ET) (s:PS),Mo T s (appF T e R n bare a s).2/\wz ek (appF T e R n bare a s).1+s.i<=(appF T e R n bare a s).2.i+wz ek a:=by
 induction n with
 | zero=>intro bare a s;exact ⟨Mo.refl s,by show wz ek a+s.i<=s.i+wz ek a;omega⟩
 | succ n ih=>
  intro bare a s;unfold appF;split
  .rename_i h
   split;rename_i b s1 h1;have m:=atom_w hR (e:=e) s;rw [h1] at m
   obtain ⟨i1,i2⟩:=ih false (if bare=true then kidT a b else eN 6 (tokS T e s).at_ nS [a,b]) s1
   refine ⟨m.1.trans i1,?_⟩;have hz:wz ek (if bare=true then kidT a b else eN 6 (tokS T e s).at_ nS [a,b])<=wz ek a+wz ek b:=by
    split
    .exact kidT_w a b
    .rw [eN_w,wz2];omega
   have:=m.2;simp only at *
   omega
  .exact ⟨Mo.refl s,by show wz ek a+s.i<=s.i+wz ek a;omega⟩
theorem appS_w(s:PS):EW T s (appS T e R s):=by
 unfold appS;split;rename_i a s1 h1;have m:=atom_w hR (e:=e) s;rw [h1] at m
 obtain ⟨i1,i2⟩:=app_w hR (e:=e) (T.length+1) (decide ((tokS T e s).kind=4)) a s1;exact ⟨m.1.trans i1,by have:=m.2;simp only at *;omega⟩
theorem un_w(n:Nat):∀ s,EW T s (unF T e R n s):=by
 induction n with
 | zero=>intro s;exact EW.e0 (Mo.refl s)
 | succ n ih=>
  intro s;have st:∀ (x:ByteArray) (f:ET->ET),isS T e s x=true->x.toList≠[]->(∀ t,wz ek (f t)<=wz ek t)->EW T s (match unF T e R n (advS s) with|(a,s1)=>(f a,s1)):=fun x f h hx hf=>by
   split;rename_i a s1 h1;have b:=ih (advS s);rw [h1] at b
   obtain ⟨b1,b2⟩:=b;rw [xK] at b2
   refine ⟨(Mo.advS h hx).trans b1,?_⟩;have:=hf a;have:=b1.1;simp only at *
   omega
  have one:∀ k a x (t:ET),wz ek (eN k a x [t])<=wz ek t:=fun k a x t=>by rw [eN_w,wz1];omega
  unfold unF;split
  .rename_i h;exact st _ _ h (xa (l:=[114,97,105,115,101]) (by simp)) (one _ _ _)
  .split
   .rename_i h;exact st _ _ h (xa (l:=[114,101,102]) (by simp)) (one _ _ _)
   .split
    .rename_i h;exact st _ _ h (xa (l:=[33]) (by simp)) (one _ _ _)
    .split
     .rename_i h;exact st _ (fun a=>eN 10 (tokS T e s).at_ (⟨#[45]⟩:ByteArray) [eN 1 (tokS T e s).at_ nS [],a]) h (xa (l:=[45]) (by simp)) (fun t=>by rw [eN_w,wz2,eN_w,uj];omega)
     .exact appS_w hR s
omit hR in
theorem left_w{L:List ByteArray}(hL:∀ x∈L,x.toList≠[]){Q:PS->ET×PS}(hQ:∀ s,EW T s (Q s))(n:Nat):∀ (a:ET) (s:PS),Mo T s (zd T e L Q n a s).2/\wz ek (zd T e L Q n a s).1+s.i<=(zd T e L Q n a s).2.i+wz ek a:=by
 induction n with
 | zero=>intro a s;exact ⟨Mo.refl s,by show wz ek a+s.i<=s.i+wz ek a;omega⟩
 | succ n ih=>
  intro a s;unfold zd;split
  .rename_i h
   have m1:Mo T s (advS s):=Mo.adv (xS (wX hL h.2)).2;split;rename_i b s1 h1;have q:=hQ (advS s);rw [h1] at q
   obtain ⟨q1,q2⟩:=q;rw [xK] at q2
   obtain ⟨i1,i2⟩:=ih (eN 10 (tokS T e s).at_ (tokS T e s).s [a,b]) s1;refine ⟨(m1.trans q1).trans i1,?_⟩;rw [eN_w,wz2] at i2
   simp only at *
   omega
  .exact ⟨Mo.refl s,by show wz ek a+s.i<=s.i+wz ek a;omega⟩
theorem left0_w(s:PS):EW T s (wj T e R s):=by
 unfold wj;split;rename_i a s1 h1;have m:=un_w hR (e:=e) (T.length+1) s;rw [h1] at m
 obtain ⟨i1,i2⟩:=left_w (T:=T) (e:=e) (L:=[(⟨#[42]⟩:ByteArray),(⟨#[47]⟩:ByteArray),(⟨#[37]⟩:ByteArray)]) (by simp only [List.mem_cons,List.not_mem_nil,or_false,forall_eq_or_imp,forall_eq];exact ⟨xa (l:=[42]) (by simp),xa (l:=[47]) (by simp),xa (l:=[37]) (by simp)⟩) (un_w hR (T.length+1)) (T.length+1) a s1
 exact ⟨m.1.trans i1,by have:=m.2;simp only at *;omega⟩
theorem left1_w(s:PS):EW T s (uu T e R s):=by
 unfold uu;split;rename_i a s1 h1;have m:=left0_w hR (e:=e) s;rw [h1] at m
 obtain ⟨i1,i2⟩:=left_w (T:=T) (e:=e) (L:=[(⟨#[43]⟩:ByteArray),(⟨#[45]⟩:ByteArray),(⟨#[94]⟩:ByteArray)]) (by simp only [List.mem_cons,List.not_mem_nil,or_false,forall_eq_or_imp,forall_eq];exact ⟨xa (l:=[43]) (by simp),xa (l:=[45]) (by simp),xa (l:=[94]) (by simp)⟩) (left0_w hR) (T.length+1) a s1
 exact ⟨m.1.trans i1,by have:=m.2;simp only at *;omega⟩
theorem cons_w(n:Nat):∀ s,EW T s (wt T e R n s):=by
 induction n with
 | zero=>intro s;exact EW.e0 (Mo.refl s)
 | succ n ih=>
  intro s;unfold wt;split;rename_i a s1 h1;have m:=left1_w hR (e:=e) s;rw [h1] at m
  split
  .rename_i h2
   split;rename_i b s2 h3;have q:=ih (advS s1);rw [h3] at q
   obtain ⟨q1,q2⟩:=q;rw [xK] at q2
   refine ⟨(m.1.trans (Mo.advS h2 (xa (l:=[58,58]) (by simp)))).trans q1,?_⟩
   have:=m.2;unfold consT;show wz ek (eN _ _ _ _)+_<=_;rw [eN_w,wz1,eN_w,wz2];simp only at *
   omega
  .exact m
theorem cmp_w(s:PS):EW T s (cmpS T e R s):=by
 unfold cmpS;split;rename_i a s1 h1;have m:=cons_w hR (e:=e) (T.length+1) s;rw [h1] at m
 split
 .rename_i h2
  have m1:Mo T s1 (advS s1):=Mo.adv (xS (wX (by simp only [List.mem_cons,List.not_mem_nil,or_false,forall_eq_or_imp,forall_eq];exact ⟨xa (l:=[61]) (by simp),xa (l:=[60,62]) (by simp),xa (l:=[60]) (by simp),xa (l:=[60,61]) (by simp)⟩) h2)).2
  split;rename_i b s2 h3;have q:=cons_w hR (e:=e) (T.length+1) (advS s1);rw [h3] at q
  obtain ⟨q1,q2⟩:=q;rw [xK] at q2
  refine ⟨(m.1.trans m1).trans q1,?_⟩;have:=m.2;show wz ek (eN _ _ _ _)+_<=_;rw [eN_w,wz2];simp only at *
  omega
 .exact m
theorem set_w(n:Nat):∀ s,EW T s (setF T e R n s):=by
 induction n with
 | zero=>intro s;exact EW.e0 (Mo.refl s)
 | succ n ih=>
  intro s;unfold setF;split;rename_i a s1 h1;have m:=cmp_w hR (e:=e) s;rw [h1] at m
  split
  .rename_i h2
   split;rename_i b s2 h3;have q:=ih (advS s1);rw [h3] at q
   obtain ⟨q1,q2⟩:=q;rw [xK] at q2
   refine ⟨(m.1.trans (Mo.advS h2 (xa (l:=[58,61]) (by simp)))).trans q1,?_⟩
   have:=m.2;show wz ek (eN _ _ _ _)+_<=_;rw [eN_w,wz2];simp only at *
   omega
  .exact m
theorem arms_w(n:Nat):∀ (qs:List MPat) (l:List ET) (s:PS),Mo T s (yZ T e R n qs l s).2.2/\wzL ek (yZ T e R n qs l s).2.1+qz (yZ T e R n qs l s).1+s.i<=(yZ T e R n qs l s).2.2.i+wzL ek l+qz qs:=by
 induction n with
 | zero=>intro qs l s;exact ⟨Mo.refl s,by show wzL ek l+qz qs+s.i<=s.i+wzL ek l+qz qs;omega⟩
 | succ n ih=>
  intro qs l s;unfold yZ;split
  .split
   rename_i p s1 h1;have pw:=(pat_w (T:=T) (e:=e) 101 (wh s));rw [h1] at pw
   have m:=pw.1;have pz:=pw.2;have pz':wz pk p+s.i<=s1.i:=pz;split;rename_i b s2 h2;have t:=Mo.take (T:=T) (e:=e) s1 (xa (l:=[45,62]) (by simp))
   have q:=hR (xf T e s1 (⟨#[45,62]⟩:ByteArray));rw [h2] at q
   have mm:=(((Mo.unseen (T:=T) s).trans m).trans t).trans q.1;have g1:=mm.1;have g2:=((Mo.unseen (T:=T) s).trans m).trans t;have g3:=g2.1;have g4:=t.1;split
   .rename_i h3
    obtain ⟨i1,i2⟩:=ih (qs++[layP p]) (l++[b]) (advS s2);refine ⟨(mm.trans (Mo.advS h3 (xa (l:=[124]) (by simp)))).trans i1,?_⟩
    rw [wzL_app,wz1,xK,qz_app,qz1] at i2
    have:=q.2;simp only at *
    omega
   .refine ⟨mm,?_⟩
    have:=q.2;show wzL ek (l++[b])+qz (qs++[layP p])+_<=_;rw [wzL_app,wz1,qz_app,qz1];simp only at *
    omega
  .exact ⟨Mo.refl s,by show wzL ek l+qz qs+s.i<=s.i+wzL ek l+qz qs;omega⟩
theorem match_w(at_:Int)(s:PS):EW T s (wM T e R at_ s):=by
 unfold wM;split;rename_i a s1 h1;have m:=hR s;rw [h1] at m
 split;rename_i qs l s2 h2;have t1:=Mo.take (T:=T) (e:=e) s1 (xa (l:=[119,105,116,104]) (by simp))
 have q:=arms_w hR (e:=e) (T.length+1) [] [a] (xf T e s1 (⟨#[119,105,116,104]⟩:ByteArray));rw [h2] at q
 have t2:=Mo.take (T:=T) (e:=e) s2 (xa (l:=[101,110,100]) (by simp))
 refine ⟨((m.1.trans t1).trans q.1).trans t2,?_⟩;have g1:=m.2;have g2:=q.2;have g3:=t1.1;have g4:=t2.1;rw [wz1] at g2
 show wz ek (Arb.mk _ _)+_<=_;rw [uZ];show qz qs+_+_<=_;have g5:qz []=0:=rfl;simp only at *
 omega
omit hR in
theorem XK{c:Prop} [Decidable c] {s:PS}{a b:ET×PS}(h1:c->EW T s a)(h2:¬ c->EW T s b):EW T s (if c then a else b):=by
 by_cases h:c
 .rw [if_pos h];exact h1 h
 .rw [if_neg h];exact h2 h
theorem xbM(s:PS):EW T s (wW T e R s):=by
 unfold wW;refine XK (fun _=>?_) (fun _=>EW.e0 (Mo.refl s))
 refine XK (fun h=>?_) (fun _=>?_)
 .have m0:=Mo.advS h (xa (l:=[102,117,110]) (by simp))
  split;rename_i x s1 h1;have m1:=ux (by decide) h1
  have m2:=Mo.take (T:=T) (e:=e) s1 (xa (l:=[45,62]) (by simp))
  split;rename_i b s2 h2;have q:=hR (xf T e s1 (⟨#[45,62]⟩:ByteArray));rw [h2] at q
  refine ⟨((m0.trans m1).trans m2).trans q.1,?_⟩;have g0:=xK s;have g1:=m1.1;have g2:=m2.1;have g3:=q.2;show wz ek (eN _ _ _ _)+_<=_;rw [eN_w,wz1];simp only at *
  omega
 refine XK (fun h=>?_) (fun _=>?_)
 .have m0:=Mo.advS h (xa (l:=[108,101,116]) (by simp))
  have g0:=xK s;refine XK (fun h'=>?_) (fun _=>?_)
  .have m00:=Mo.advS h' (xa (l:=[114,101,99]) (by simp))
   have g00:=xK (advS s);split;rename_i f s1 h1;have m1:=ux (by decide) h1
   split;rename_i x s2 h2;have m2:=ux (by decide) h2
   have m3:=Mo.take (T:=T) (e:=e) s2 (xa (l:=[61]) (by simp))
   split;rename_i a s3 h3;have q3:=hR (xf T e s2 (⟨#[61]⟩:ByteArray));rw [h3] at q3
   have m4:=Mo.take (T:=T) (e:=e) s3 (xa (l:=[105,110]) (by simp))
   split;rename_i b s4 h4;have q4:=hR (xf T e s3 (⟨#[105,110]⟩:ByteArray));rw [h4] at q4
   refine ⟨((((((m0.trans m00).trans m1).trans m2).trans m3).trans q3.1).trans m4).trans q4.1,?_⟩;have g1:=m1.1;have g2:=m2.1;have g3:=m3.1;have g4:=m4.1;have g5:=q3.2;have g6:=q4.2;show wz ek (eN _ _ _ _)+_<=_;rw [eN_w,wz2,eN_w,wz1];simp only at *
   omega
  .split
   rename_i x s1 h1;have m1:=ux (by decide) h1
   have m2:=Mo.take (T:=T) (e:=e) s1 (xa (l:=[61]) (by simp))
   split;rename_i a s2 h2;have q3:=hR (xf T e s1 (⟨#[61]⟩:ByteArray));rw [h2] at q3
   have m4:=Mo.take (T:=T) (e:=e) s2 (xa (l:=[105,110]) (by simp))
   split;rename_i b s3 h3;have q4:=hR (xf T e s2 (⟨#[105,110]⟩:ByteArray));rw [h3] at q4
   refine ⟨((((m0.trans m1).trans m2).trans q3.1).trans m4).trans q4.1,?_⟩;have g1:=m1.1;have g2:=m2.1;have g4:=m4.1;have g5:=q3.2;have g6:=q4.2;show wz ek (eN _ _ _ _)+_<=_;rw [eN_w,wz2];simp only at *
   omega
 refine XK (fun h=>?_) (fun _=>?_)
 .have m0:=Mo.advS h (xa (l:=[105,102]) (by simp))
  have g0:=xK s;split;rename_i a s1 h1;have q1:=hR (advS s);rw [h1] at q1
  have m2:=Mo.take (T:=T) (e:=e) s1 (xa (l:=[116,104,101,110]) (by simp))
  split;rename_i b s2 h2;have q2:=hR (xf T e s1 (⟨#[116,104,101,110]⟩:ByteArray));rw [h2] at q2
  have m3:=Mo.take (T:=T) (e:=e) s2 (xa (l:=[101,108,115,101]) (by simp))
  split;rename_i d s3 h3;have q3:=hR (xf T e s2 (⟨#[101,108,115,101]⟩:ByteArray));rw [h3] at q3
  refine ⟨((((m0.trans q1.1).trans m2).trans q2.1).trans m3).trans q3.1,?_⟩;have g1:=q1.2;have g2:=m2.1;have g3:=q2.2;have g4:=m3.1;have g5:=q3.2;show wz ek (eN _ _ _ _)+_<=_;rw [eN_w,wz3];simp only at *
  omega
 refine XK (fun h=>?_) (fun _=>?_)
 .have m0:=Mo.advS h (xa (l:=[109,97,116,99,104]) (by simp))
  have g0:=xK s;have q:=match_w hR (e:=e) (tokS T e s).at_ (advS s);refine ⟨m0.trans q.1,?_⟩;have:=q.2;omega
 refine XK (fun h=>?_) (fun _=>?_)
 .have m0:=Mo.advS h (xa (l:=[116,114,121]) (by simp))
  have g0:=xK s;split;rename_i a s1 h1;have q1:=hR (advS s);rw [h1] at q1
  have m2:=Mo.take (T:=T) (e:=e) s1 (xa (l:=[119,105,116,104]) (by simp))
  split;rename_i x s2 h2;have m3:=ux (by decide) h2
  have m4:=Mo.take (T:=T) (e:=e) s2 (xa (l:=[45,62]) (by simp))
  split;rename_i b s3 h3;have q3:=hR (xf T e s2 (⟨#[45,62]⟩:ByteArray));rw [h3] at q3
  have m5:=Mo.take (T:=T) (e:=e) s3 (xa (l:=[101,110,100]) (by simp))
  refine ⟨(((((m0.trans q1.1).trans m2).trans m3).trans m4).trans q3.1).trans m5,?_⟩;have g1:=q1.2;have g2:=m2.1;have g3:=m3.1;have g4:=m4.1;have g5:=q3.2;have g6:=m5.1;show wz ek (eN _ _ _ _)+_<=_;rw [eN_w,wz2];simp only at *
  omega
 split;rename_i a s1 h1;have m:=set_w hR (e:=e) (T.length+1) s;rw [h1] at m
 refine XK (fun h=>?_) (fun _=>m)
 have m0:=Mo.advS h (xa (l:=[59]) (by simp))
 have g0:=xK s1;split;rename_i b s2 h2;have q:=hR (advS s1);rw [h2] at q
 refine ⟨(m.1.trans m0).trans q.1,?_⟩;have g1:=m.2;have g2:=q.2;show wz ek (eN _ _ _ _)+_<=_;rw [eN_w,wz2];simp only at *
 omega
end
theorem expr_w(k:Nat):∀ s,EW T s (uA T e k s):=by
 induction k with
 | zero=>
  intro s;unfold uA;exact XK (fun _=>EW.e0 (Mo.deep s _)) (fun _=>EW.e0 (Mo.refl s))
 | succ k ih=>exact fun s=>xbM ih s
end
end
section
theorem txtO_rng{l:List UInt8}{n:Int}(h:txtO l=some n) : -4611686018427387904<=n/\n<=4611686018427387904:=by
 unfold txtO at h
 split at h
 .rename_i q
  injection h with h
  have hs:=q.2.choose_spec;rw [h] at hs
  by_cases hr : -4611686018427387904<=n/\n<=4611686018427387903
  .exact ⟨hr.1,by omega⟩
  .rw [Us hr] at hs
   exact absurd hs.symm q.1
 .cases h
def nOk(t:MTok):Prop:=-4611686018427387904<=t.n/\t.n<=4611686018427387904
theorem nOk0(k:Int)(s:ByteArray)(a:Int):nOk ⟨k,0,s,a⟩:=⟨by show (-4611686018427387904:Int)<=0;omega,by show (0:Int)<=4611686018427387904;omega⟩
theorem tokM_n(s:ByteArray)(i:Nat):nOk (tokM s i).1:=by
 unfold tokM;split
 .split
  .exact nOk0 _ _ _
  .rename_i n h;exact txtO_rng h
 .split
  .split
   .exact nOk0 _ _ _
   .split
    .exact nOk0 _ _ _
    .split<;>exact nOk0 _ _ _
  .split
   .rename_i h
    have hl:=h.2.2;unfold lowI at hl
    simp only [Bool.and_eq_true,decide_eq_true_eq] at hl
    exact ⟨by show (-4611686018427387904:Int)<=bAt s (i+1) - 97;omega,by show bAt s (i+1) - 97<=(4611686018427387904:Int);omega⟩
   .split
    .split
     .exact nOk0 _ _ _
     .split<;>exact nOk0 _ _ _
    .split<;>exact nOk0 _ _ _
theorem Yb(s:ByteArray):∀ (f i:Nat) (acc:List MTok),acc.length<=i->i<=s.size->(∀ t∈acc,nOk t)->(lexF s f i acc).1.length<=s.size/\∀ t∈(lexF s f i acc).1,nOk t
 | 0,i,acc,h1,h2,h3=>⟨Nat.le_trans h1 h2,h3⟩
 | f+1,i,acc,h1,h2,h3=>by
  by_cases hi:s.size<=i
  .rw [Ui hi];exact ⟨Nat.le_trans h1 h2,h3⟩
  .have hi:i<s.size:=by omega
   cases hb:uo (bAt s i) with
   | true=>rw [Zd hi hb];exact Yb s f (i+1) acc (by omega) (by omega) h3
   | false=>
    cases hl:hasM s lpB i with
    | true=>
     cases hr:remM s i with
     | none=>rw [Ze hi hb hl hr];exact ⟨Nat.zero_le _,fun t ht=>by cases ht⟩
     | some j=>
      have:=remM_bd hr;rw [Uj hi hb hl hr];exact Yb s f j acc (by omega) (by omega) h3
    | false=>
     by_cases hc:(tokM s i).2.2=0
     .have hd:=tokM_bd hi hc
      rw [Uk hi hb hl hc];refine Yb s f _ _ (by rw [List.length_append,List.length_singleton];omega) (by omega) (fun t ht=>?_)
      rcases List.mem_append.1 ht with q|q
      .exact h3 t q
      .rw [List.mem_singleton.1 q];exact tokM_n s i
     .rw [Uh hi hb hl hc];exact ⟨Nat.zero_le _,fun t ht=>by cases ht⟩
theorem Ul(s:ByteArray):(lexM s).1.length<=4000/\∀ t∈(lexM s).1,nOk t:=by
 unfold lexM;split
 .rename_i h
  have:=Yb s s.size 0 [] (Nat.zero_le _) (Nat.zero_le _) (fun t ht=>by cases ht)
  exact ⟨Nat.le_trans this.1 h,this.2⟩
 .exact ⟨Nat.zero_le _,fun t ht=>by cases ht⟩
end
section
open Arb
inductive AllT{α:Type}(P:α->Prop):Arb α->Prop where
 | mk {a:α} {l:List (Arb α)}:P a->(∀ x∈l,AllT P x)->AllT P (.mk a l)
theorem AllT.lab{α:Type}{P:α->Prop}{t:Arb α}(h:AllT P t):P t.a:=by cases h;assumption
theorem AllT.lay{α β:Type}{P:α->Prop}(f:α->List Int->β):∀ t:Arb α,AllT P t->∀ b:Nat,∀ x∈Arb.lay f b t,∃ a ks,x=f a ks/\P a/\ks.length<=t.size/\∀ k∈ks,0<=k/\k<=(b+t.size:Nat):=fun t=>by
 induction t using Arb.ind with
 | h a l ih=>
  intro h b x hx;cases h with
  | mk ha hl=>
   rw [lay_mk] at hx
   have hLL:∀ (r:List (Arb α)) (c:Nat),(∀ y∈r,y∈l)->∀ x∈layL f c r,∃ a ks,x=f a ks/\P a/\ks.length<=sizeL r/\∀ k∈ks,0<=k/\k<=(c+sizeL r:Nat):=by
    intro r
    induction r with
    | nil=>intro c _ x hx;rw [layL_nil] at hx;cases hx
    | cons y r ihr=>
     intro c hy x hx;rw [layL_cons] at hx
     rw [sizeL_cons];rcases List.mem_append.1 hx with q|q
     .obtain ⟨a',ks,h1,h2,h3,h4⟩:=ih y (hy y (List.mem_cons_self ..)) (hl y (hy y (List.mem_cons_self ..))) c x q
      exact ⟨a',ks,h1,h2,by omega,fun k hk=>⟨(h4 k hk).1,by have:=(h4 k hk).2;omega⟩⟩
     .obtain ⟨a',ks,h1,h2,h3,h4⟩:=ihr (c+y.size) (fun z hz=>hy z (List.mem_cons_of_mem _ hz)) x q
      exact ⟨a',ks,h1,h2,by omega,fun k hk=>⟨(h4 k hk).1,by have:=(h4 k hk).2;omega⟩⟩
   have hidx:∀ (r:List (Arb α)) (c:Nat),∀ k∈idxs c r,0<=k/\k<=(c+sizeL r:Nat):=by
    intro r
    induction r with
    | nil=>intro c k hk;cases hk
    | cons y r ihr=>
     intro c k hk;rw [sizeL_cons];rcases List.mem_cons.1 hk with q|q
     .subst q;exact ⟨by omega,by omega⟩
     .have:=ihr (c+y.size) k q
      exact ⟨this.1,by have:=this.2;omega⟩
   rw [size_mk];rcases List.mem_cons.1 hx with q|q
   .refine ⟨a,_,q,ha,?_,fun k hk=>?_⟩
    .have h1:=idxs_len (b+1) l
     have h2:=sizeL_len l;omega
    .have:=hidx l (b+1) k hk
     exact ⟨this.1,by have:=this.2;omega⟩
   .obtain ⟨a',ks,h1,h2,h3,h4⟩:=hLL l (b+1) (fun _ h=>h) x q
    exact ⟨a',ks,h1,h2,by omega,fun k hk=>⟨(h4 k hk).1,by have:=(h4 k hk).2;omega⟩⟩
def TB(t:MTok):Prop:=I64 t.at_/\(-4611686018427387904<=t.n/\t.n<=4611686018427387904)/\t.s.size<=4000
def PIOk(a:PI):Prop:=I64 a.kind/\I64 a.n/\a.s.size<=4000
def EOk(a:EI):Prop:=I64 a.kind/\I64 a.at_/\I64 a.n/\a.s.size<=4000/\a.pats.length<=20000/\∀ q∈a.pats,q.ok/\q.sm
theorem i64c{k:Int}(h0 : -1000<=k)(h1:k<=1000):I64 k:=⟨by omega,by omega⟩
theorem z64:I64 0:=i64c (by omega) (by omega)
theorem x8:nS.size<=4000:=by decide
theorem p_mk{k n:Int}{s:ByteArray}{l:List PT}(hk : -1000<=k/\k<=1000)(hn:I64 n)(hs:s.size<=4000)(hl:∀ x∈l,AllT PIOk x):AllT PIOk (pN k n s l):=.mk ⟨i64c hk.1 hk.2,hn,hs⟩ hl
theorem e_mk{k a:Int}{s:ByteArray}{l:List ET}(hk : -1000<=k/\k<=1000)(ha:I64 a)(hs:s.size<=4000)(hl:∀ x∈l,AllT EOk x):AllT EOk (eN k a s l):=.mk ⟨i64c hk.1 hk.2,ha,z64,hs,Nat.zero_le _,fun q hq=>by cases hq⟩ hl
theorem xR{α:Type}{P:α->Prop}:∀ x∈([]:List α),P x:=fun x h=>by cases h
theorem mem1{α:Type}{P:α->Prop}{a:α}(h:P a):∀ x∈[a],P x:=fun x hx=>by rw [List.mem_singleton.1 hx];exact h
theorem mem2{α:Type}{P:α->Prop}{a b:α}(h:P a)(h':P b):∀ x∈[a,b],P x:=fun x hx=>by
 rcases List.mem_cons.1 hx with q|q
 .rw [q];exact h
 .exact mem1 h' x q
theorem mem3{α:Type}{P:α->Prop}{a b c:α}(h:P a)(h':P b)(h'':P c):∀ x∈[a,b,c],P x:=fun x hx=>by
 rcases List.mem_cons.1 hx with q|q
 .rw [q];exact h
 .exact mem2 h' h'' x q
theorem P0_o:AllT PIOk P0:=p_mk (by omega) (i64c (by omega) (by omega)) x8 xR
theorem E0_o:AllT EOk E0:=e_mk (by omega) (i64c (by omega) (by omega)) x8 xR
section
variable {T:List MTok} {e:Int} (hT:∀ t∈T,TB t) (he:I64 e)
include hT he
theorem zZ(s:PS):TB (tokS T e s):=by
 unfold tokS;split
 .rename_i h
  rw [List.getD_eq_getElem?_getD,List.getElem?_eq_getElem h.2,Option.getD_some];exact hT _ (List.getElem_mem h.2)
 .exact ⟨he,⟨by show (-4611686018427387904:Int)<=0;omega,by show (0:Int)<=4611686018427387904;omega⟩,x8⟩
theorem n_o(s:PS):I64 (tokS T e s).n:=by have:=(zZ hT he s).2.1;exact ⟨by omega,by omega⟩
theorem nn_o(s:PS):I64 (-(tokS T e s).n):=by have:=(zZ hT he s).2.1;exact ⟨by omega,by omega⟩
omit hT he in
theorem iteQ{c:Prop} [Decidable c] {a b:PT×PS}(h1:c->AllT PIOk a.1)(h2:¬ c->AllT PIOk b.1):AllT PIOk (if c then a else b).1:=by
 by_cases h:c
 .rw [if_pos h];exact h1 h
 .rw [if_neg h];exact h2 h
section
variable {R:PS->PT×PS} (hR:∀ s,AllT PIOk (R s).1)
include hR
theorem patom_o(n:Nat):∀ s,AllT PIOk (z7 T e R n s).1:=by
 induction n with
 | zero=>intro s;exact P0_o
 | succ n ih=>
  intro s;have ht:=zZ hT he s;have z0:I64 0:=i64c (by omega) (by omega)
  rw [z7];refine iteQ (fun _=>iteQ (fun _=>P0_o) (fun _=>p_mk (by omega) z0 ht.2.2 xR)) (fun _=>?_)
  refine iteQ (fun _=>p_mk (by omega) (n_o hT he s) x8 xR) (fun _=>?_)
  refine iteQ (fun _=>iteQ (fun _=>?_) (fun _=>p_mk (by omega) z0 ht.2.2 xR)) (fun _=>?_)
  .have b:=ih (advS s)
   rcases h:z7 T e R n (advS s) with ⟨a,s1⟩
   rw [h] at b
   exact p_mk (by omega) z0 ht.2.2 (mem1 b)
  refine iteQ (fun _=>p_mk (by omega) z0 x8 xR) (fun _=>?_)
  refine iteQ (fun _=>p_mk (by omega) z0 (by decide) xR) (fun _=>?_)
  refine iteQ (fun _=>p_mk (by omega) z0 (by decide) xR) (fun _=>?_)
  refine iteQ (fun _=>p_mk (by omega) z0 (by decide) xR) (fun _=>?_)
  refine iteQ (fun _=>p_mk (by omega) (nn_o hT he _) x8 xR) (fun _=>?_)
  refine iteQ (fun _=>iteQ (fun _=>p_mk (by omega) z0 x8 xR) (fun _=>?_)) (fun _=>P0_o)
  have b:=hR (advS s);rcases h1:R (advS s) with ⟨a,s1⟩
  rw [h1] at b
  refine iteQ (fun _=>?_) (fun _=>b)
  have c:=hR (advS s1);rcases h3:R (advS s1) with ⟨b',s2⟩
  rw [h3] at c
  exact p_mk (by omega) z0 x8 (mem2 b c)
theorem patStep_o(s:PS):AllT PIOk (uE T e R s).1:=by
 have z0:I64 0:=i64c (by omega) (by omega)
 unfold uE;refine iteQ (fun _=>?_) (fun _=>P0_o)
 have a:=patom_o hT he hR (T.length+1) s;rcases h1:z7 T e R (T.length+1) s with ⟨p,s1⟩
 rw [h1] at a
 refine iteQ (fun _=>?_) (fun _=>a)
 have b:=hR (advS s1);rcases h2:R (advS s1) with ⟨q,s2⟩
 rw [h2] at b
 exact p_mk (by omega) z0 (by decide) (mem1 (p_mk (by omega) z0 x8 (mem2 a b)))
end
theorem pat_o(k:Nat):∀ s,AllT PIOk (patF T e k s).1:=by
 induction k with
 | zero=>intro s;unfold patF;exact iteQ (fun _=>iteQ (fun _=>P0_o) (fun _=>P0_o)) (fun _=>P0_o)
 | succ k ih=>exact fun s=>patStep_o hT he ih s
omit hT he in
theorem layP_ok{p:PT}(h:AllT PIOk p)(hs:p.size<=40000):(layP p).ok/\(layP p).sm:=by
 have hl:=AllT.lay PI.node p h 0;refine ⟨fun y hy=>?_,?_,fun y hy=>?_⟩
 .obtain ⟨a,ks,rfl,ha,h1,h2⟩:=hl y hy
  exact ⟨ha.1,ha.2.1,by have:=ha.2.2;show a.s.size<=maxLen;unfold maxLen;omega,fun k hk=>⟨by have:=(h2 k hk).1;omega,by have:=(h2 k hk).2;omega⟩⟩
 .show (Arb.lay PI.node 0 p).length<=1048576
  rw [Arb.lay_len];omega
 .obtain ⟨a,ks,rfl,ha,h1,h2⟩:=hl y hy
  exact ⟨by have:=ha.2.2;show a.s.size<=1048576;omega,by show ks.length<=1048576;omega,fun _ _=>trivial⟩
omit hT he in
theorem iteR{c:Prop} [Decidable c] {a b:ET×PS}(h1:c->AllT EOk a.1)(h2:¬ c->AllT EOk b.1):AllT EOk (if c then a else b).1:=by
 by_cases h:c
 .rw [if_pos h];exact h1 h
 .rw [if_neg h];exact h2 h
omit hT he in
theorem Mo.wfO{s s':PS}(h:Mo T s s')(w:s.i<=T.length):s'.i<=T.length:=h.2.1 w
section
variable {R:PS->ET×PS} (hRb:∀ s,EB T s (R s)) (hR:∀ s,s.i<=T.length->AllT EOk (R s).1)
include hRb hR
theorem atom_o(s:PS)(hs:s.i<=T.length):AllT EOk (zm T e R s).1:=by
 have ht:=zZ hT he s;unfold zm;refine iteR (fun hb=>?_) (fun _=>E0_o)
 have m1:Mo T s (advS s):=Mo.adv (xS (Xr hb)).2;have w1:=m1.wfO hs;refine iteR (fun _=>.mk ⟨i64c (k:=1) (by omega) (by omega),ht.1,n_o hT he s,x8,Nat.zero_le _,xR⟩ xR) (fun _=>?_)
 refine iteR (fun _=>e_mk (by omega) ht.1 ht.2.2 xR) (fun _=>?_)
 refine iteR (fun _=>e_mk (by omega) ht.1 ht.2.2 xR) (fun _=>?_)
 refine iteR (fun _=>e_mk (by omega) ht.1 ht.2.2 xR) (fun _=>?_)
 refine iteR (fun _=>e_mk (by omega) ht.1 (by decide) xR) (fun _=>?_)
 refine iteR (fun _=>?_) (fun _=>e_mk (by omega) ht.1 ht.2.2 xR)
 refine iteR (fun _=>e_mk (by omega) ht.1 x8 xR) (fun _=>?_)
 have b:=hR (advS s) w1;have mb:=(hRb (advS s)).1;rcases h1:R (advS s) with ⟨a,s1⟩
 rw [h1] at b mb
 refine iteR (fun h2=>?_) (fun _=>b)
 have c:=hR (advS s1) ((Mo.advS h2 (xa (l:=[44]) (by simp))).wfO (mb.wfO w1))
 rcases h3:R (advS s1) with ⟨b',s2⟩
 rw [h3] at c
 exact e_mk (by omega) ht.1 x8 (mem2 b c)
omit hT he hRb hR in
theorem kidT_o{a b:ET}(ha:AllT EOk a)(hb:AllT EOk b):AllT EOk (kidT a b):=.mk ha.lab (mem1 hb)
theorem appF_o(n:Nat):∀ (bare:Bool) (a:ET) (s:PS),s.i<=T.length->AllT EOk a->AllT EOk (appF T e R n bare a s).1:=by
 induction n with
 | zero=>intro bare a s _ ha;exact ha
 | succ n ih=>
  intro bare a s hs ha;unfold appF;refine iteR (fun h=>?_) (fun _=>ha)
  have b:=atom_o hT he hRb hR s hs;have mb:=(YM hRb (e:=e) s).1;rcases h1:zm T e R s with ⟨x,s1⟩
  rw [h1] at b mb
  refine ih false _ s1 (mb.wfO hs) ?_;cases bare with
  | true=>rw [if_pos rfl];exact kidT_o ha b
  | false=>rw [if_neg (by decide)];exact e_mk (by omega) (zZ hT he s).1 x8 (mem2 ha b)
theorem appS_o(s:PS)(hs:s.i<=T.length):AllT EOk (appS T e R s).1:=by
 unfold appS;have b:=atom_o hT he hRb hR s hs;have mb:=(YM hRb (e:=e) s).1;rcases h1:zm T e R s with ⟨x,s1⟩
 rw [h1] at b mb
 exact appF_o hT he hRb hR _ _ _ s1 (mb.wfO hs) b
theorem unF_o(n:Nat):∀ s,s.i<=T.length->AllT EOk (unF T e R n s).1:=by
 induction n with
 | zero=>intro s _;exact E0_o
 | succ n ih=>
  intro s hs;have ht:=(zZ hT he s).1;have key:∀ x:ByteArray,x.toList≠[]->isS T e s x=true->AllT EOk (unF T e R n (advS s)).1:=fun x hx h=>ih _ ((Mo.advS h hx).wfO hs)
  unfold unF;refine iteR (fun h=>?_) (fun _=>?_)
  .have b:=key _ (xa (l:=[114,97,105,115,101]) (by simp)) h
   rcases h1:unF T e R n (advS s) with ⟨a,s1⟩
   rw [h1] at b
   exact e_mk (by omega) ht x8 (mem1 b)
  refine iteR (fun h=>?_) (fun _=>?_)
  .have b:=key _ (xa (l:=[114,101,102]) (by simp)) h
   rcases h1:unF T e R n (advS s) with ⟨a,s1⟩
   rw [h1] at b
   exact e_mk (by omega) ht x8 (mem1 b)
  refine iteR (fun h=>?_) (fun _=>?_)
  .have b:=key _ (xa (l:=[33]) (by simp)) h
   rcases h1:unF T e R n (advS s) with ⟨a,s1⟩
   rw [h1] at b
   exact e_mk (by omega) ht x8 (mem1 b)
  refine iteR (fun h=>?_) (fun _=>appS_o hT he hRb hR s hs)
  .have b:=key _ (xa (l:=[45]) (by simp)) h
   rcases h1:unF T e R n (advS s) with ⟨a,s1⟩
   rw [h1] at b
   exact e_mk (by omega) ht (by decide) (mem2 (e_mk (by omega) ht x8 xR) b)
omit hRb hR in
theorem leftF_o{L:List ByteArray}(hL:∀ x∈L,x.toList≠[]){Q:PS->ET×PS}(hQb:∀ s,EB T s (Q s))(hQ:∀ s,s.i<=T.length->AllT EOk (Q s).1)(n:Nat):∀ (a:ET) (s:PS),s.i<=T.length->AllT EOk a->AllT EOk (zd T e L Q n a s).1:=by
 induction n with
 | zero=>intro a s _ ha;exact ha
 | succ n ih=>
  intro a s hs ha;unfold zd;refine iteR (fun h=>?_) (fun _=>ha)
  have w1:(advS s).i<=T.length:=(Mo.adv (xS (wX hL h.2)).2).wfO hs;have b:=hQ (advS s) w1;have mb:=(hQb (advS s)).1;rcases h1:Q (advS s) with ⟨x,s1⟩
  rw [h1] at b mb
  exact ih _ s1 (mb.wfO w1) (e_mk (by omega) (zZ hT he s).1 (zZ hT he s).2.2 (mem2 ha b))
theorem left0_o(s:PS)(hs:s.i<=T.length):AllT EOk (wj T e R s).1:=by
 unfold wj;have b:=unF_o hT he hRb hR (T.length+1) s hs;have mb:=(un_b hRb (e:=e) (T.length+1) s).1;rcases h1:unF T e R (T.length+1) s with ⟨x,s1⟩
 rw [h1] at b mb
 exact leftF_o hT he (by simp only [List.mem_cons,List.not_mem_nil,or_false,forall_eq_or_imp,forall_eq];exact ⟨xa (l:=[42]) (by simp),xa (l:=[47]) (by simp),xa (l:=[37]) (by simp)⟩) (un_b hRb (e:=e) (T.length+1)) (unF_o hT he hRb hR (T.length+1)) _ _ s1 (mb.wfO hs) b
theorem left1_o(s:PS)(hs:s.i<=T.length):AllT EOk (uu T e R s).1:=by
 unfold uu;have b:=left0_o hT he hRb hR s hs;have mb:=(XW hRb (e:=e) s).1;rcases h1:wj T e R s with ⟨x,s1⟩
 rw [h1] at b mb
 exact leftF_o hT he (by simp only [List.mem_cons,List.not_mem_nil,or_false,forall_eq_or_imp,forall_eq];exact ⟨xa (l:=[43]) (by simp),xa (l:=[45]) (by simp),xa (l:=[94]) (by simp)⟩) (XW hRb (e:=e)) (left0_o hT he hRb hR) _ _ s1 (mb.wfO hs) b
theorem consF_o(n:Nat):∀ s,s.i<=T.length->AllT EOk (wt T e R n s).1:=by
 induction n with
 | zero=>intro s _;exact E0_o
 | succ n ih=>
  intro s hs;unfold wt;have b:=left1_o hT he hRb hR s hs;have mb:=(Vw hRb (e:=e) s).1;rcases h1:uu T e R s with ⟨x,s1⟩
  rw [h1] at b mb
  refine iteR (fun h=>?_) (fun _=>b)
  have c:=ih (advS s1) ((Mo.advS h (xa (l:=[58,58]) (by simp))).wfO (mb.wfO hs))
  rcases h2:wt T e R n (advS s1) with ⟨y,s2⟩
  rw [h2] at c
  exact e_mk (by omega) (zZ hT he s1).1 (by decide) (mem1 (e_mk (by omega) (zZ hT he s1).1 x8 (mem2 b c)))
theorem cmp_o(s:PS)(hs:s.i<=T.length):AllT EOk (cmpS T e R s).1:=by
 unfold cmpS;have b:=consF_o hT he hRb hR (T.length+1) s hs;have mb:=(ZN hRb (e:=e) (T.length+1) s).1;rcases h1:wt T e R (T.length+1) s with ⟨x,s1⟩
 rw [h1] at b mb
 refine iteR (fun h=>?_) (fun _=>b)
 have w1:(advS s1).i<=T.length:=(Mo.adv (xS (wX (by simp only [List.mem_cons,List.not_mem_nil,or_false,forall_eq_or_imp,forall_eq];exact ⟨xa (l:=[61]) (by simp),xa (l:=[60,62]) (by simp),xa (l:=[60]) (by simp),xa (l:=[60,61]) (by simp)⟩) h)).2).wfO (mb.wfO hs)
 have c:=consF_o hT he hRb hR (T.length+1) (advS s1) w1;rcases h2:wt T e R (T.length+1) (advS s1) with ⟨y,s2⟩
 rw [h2] at c
 exact e_mk (by omega) (zZ hT he s1).1 (zZ hT he s1).2.2 (mem2 b c)
theorem setF_o(n:Nat):∀ s,s.i<=T.length->AllT EOk (setF T e R n s).1:=by
 induction n with
 | zero=>intro s _;exact E0_o
 | succ n ih=>
  intro s hs;unfold setF;have b:=cmp_o hT he hRb hR s hs;have mb:=(cmp_b hRb (e:=e) s).1;rcases h1:cmpS T e R s with ⟨x,s1⟩
  rw [h1] at b mb
  refine iteR (fun h=>?_) (fun _=>b)
  have c:=ih (advS s1) ((Mo.advS h (xa (l:=[58,61]) (by simp))).wfO (mb.wfO hs))
  rcases h2:setF T e R n (advS s1) with ⟨y,s2⟩
  rw [h2] at c
  exact e_mk (by omega) (zZ hT he s1).1 x8 (mem2 b c)
theorem arms_o(hTl:T.length<=10000)(n:Nat):∀ (qs:List MPat) (l:List ET) (s:PS),s.i<=T.length->qs.length<=s.i->(∀ q∈qs,q.ok/\q.sm)->(∀ x∈l,AllT EOk x)->(yZ T e R n qs l s).1.length<=20000/\(∀ q∈(yZ T e R n qs l s).1,q.ok/\q.sm)/\∀ x∈(yZ T e R n qs l s).2.1,AllT EOk x:=by
 induction n with
 | zero=>intro qs l s hs hq h1 h2;exact ⟨by show qs.length<=20000;omega,h1,h2⟩
 | succ n ih=>
  intro qs l s hs hq h1 h2;unfold yZ;split
  .have pb:=pat_b (T:=T) (e:=e) 101 (wh s)
   have po:=pat_o hT he 101 (wh s);rcases hp:patF T e 101 (wh s) with ⟨p,s1⟩
   rw [hp] at pb po
   obtain ⟨mp,zp⟩:=pb;have w1:s1.i<=T.length:=mp.wfO hs;have g0:s.i<=s1.i:=mp.1;have g1:=(Mo.take (T:=T) (e:=e) s1 (xa (l:=[45,62]) (by simp)))
   have w2:=g1.wfO w1;have b:=hR _ w2;have mb:=(hRb (xf T e s1 (⟨#[45,62]⟩:ByteArray))).1;rcases hr:R (xf T e s1 (⟨#[45,62]⟩:ByteArray)) with ⟨x,s2⟩
   rw [hr] at b mb
   have w3:s2.i<=T.length:=mb.wfO w2;have g2:=g1.1;have g3:(xf T e s1 (⟨#[45,62]⟩:ByteArray)).i<=s2.i:=mb.1;have hp':=layP_ok po (by have:p.size+3*s.i<=3*s1.i+1:=zp;show p.size<=40000;omega)
   have k1:∀ q∈qs++[layP p],q.ok/\q.sm:=fun q hq=>by
    rcases List.mem_append.1 hq with z|z
    .exact h1 q z
    .rw [List.mem_singleton.1 z];exact hp'
   have k2:∀ y∈l++[x],AllT EOk y:=fun y hy=>by
    rcases List.mem_append.1 hy with z|z
    .exact h2 y z
    .rw [List.mem_singleton.1 z];exact b
   simp only [hr];split
   .rename_i h
    exact ih _ _ (advS s2) ((Mo.advS h (xa (l:=[124]) (by simp))).wfO w3) (by rw [List.length_append];show qs.length+1<=s2.i+1;omega) k1 k2
   .exact ⟨by show (qs++[layP p]).length<=20000;rw [List.length_append];show qs.length+1<=20000;omega,k1,k2⟩
  .exact ⟨by show qs.length<=20000;omega,h1,h2⟩
theorem match_o(hTl:T.length<=10000){at_:Int}(ha:I64 at_)(s:PS)(hs:s.i<=T.length):AllT EOk (wM T e R at_ s).1:=by
 unfold wM;have b:=hR s hs;have mb:=(hRb s).1;rcases h1:R s with ⟨a,s1⟩
 rw [h1] at b mb
 have w1:=(Mo.take (T:=T) (e:=e) s1 (xa (l:=[119,105,116,104]) (by simp))).wfO (mb.wfO hs)
 have q:=arms_o hT he hRb hR hTl (T.length+1) [] [a] _ w1 (Nat.zero_le _) xR (mem1 b);rcases h2:yZ T e R (T.length+1) [] [a] (xf T e s1 (⟨#[119,105,116,104]⟩:ByteArray)) with ⟨qs,l,s2⟩
 simp only;rw [h2];rw [h2] at q
 exact .mk ⟨i64c (k:=13) (by omega) (by omega),ha,z64,x8,q.1,q.2.1⟩ q.2.2
theorem xbL(hTl:T.length<=10000)(s:PS)(hs:s.i<=T.length):AllT EOk (wW T e R s).1:=by
 have ht:=(zZ hT he s).1;have word:∀ (s:PS) (k:Int),(xt T e s k).1.size<=4000:=fun s k=>by
  unfold xt;split
  .exact (zZ hT he s).2.2
  .exact x8
 have wr:∀ {s' s1:PS} {b:ET},R s'=(b,s1)->s'.i<=T.length->AllT EOk b/\s1.i<=T.length:=fun {s' s1 b} h w=>by
  have h1:=hR s' w;have h2:=(hRb s').1.wfO w;rw [h] at h1 h2;exact ⟨h1,h2⟩
 have wd:∀ {s' s1:PS} {k:Int} {x:ByteArray},k≠0->xt T e s' k=(x,s1)->s'.i<=T.length->x.size<=4000/\s1.i<=T.length:=fun {s' s1 k x} hk h w=>by
  have h1:=word s' k;have h2:=(Mo.word (T:=T) (e:=e) s' hk).wfO w;rw [h] at h1 h2;exact ⟨h1,h2⟩
 unfold wW;refine iteR (fun _=>?_) (fun _=>E0_o)
 refine iteR (fun h=>?_) (fun _=>?_)
 .have w0:=(Mo.advS h (xa (l:=[102,117,110]) (by simp))).wfO hs
  rcases h1:xt T e (advS s) 3 with ⟨x,s1⟩
  obtain ⟨x1,w1⟩:=wd (by decide) h1 w0
  have w2:=(Mo.take (T:=T) (e:=e) s1 (xa (l:=[45,62]) (by simp))).wfO w1
  simp only;rcases h2:R (xf T e s1 (⟨#[45,62]⟩:ByteArray)) with ⟨b,s2⟩
  exact e_mk (by omega) ht x1 (mem1 (wr h2 w2).1)
 refine iteR (fun h=>?_) (fun _=>?_)
 .have w0:=(Mo.advS h (xa (l:=[108,101,116]) (by simp))).wfO hs
  refine iteR (fun h'=>?_) (fun _=>?_)
  .have w00:=(Mo.advS h' (xa (l:=[114,101,99]) (by simp))).wfO w0
   rcases h1:xt T e (advS (advS s)) 3 with ⟨f,s1⟩
   obtain ⟨x1,w1⟩:=wd (by decide) h1 w00
   simp only;rcases h2:xt T e s1 3 with ⟨x,s2⟩
   obtain ⟨x2,w2⟩:=wd (by decide) h2 w1
   have w3:=(Mo.take (T:=T) (e:=e) s2 (xa (l:=[61]) (by simp))).wfO w2
   simp only;rcases h3:R (xf T e s2 (⟨#[61]⟩:ByteArray)) with ⟨a,s3⟩
   obtain ⟨x3,w4⟩:=wr h3 w3;have w5:=(Mo.take (T:=T) (e:=e) s3 (xa (l:=[105,110]) (by simp))).wfO w4
   simp only;rcases h4:R (xf T e s3 (⟨#[105,110]⟩:ByteArray)) with ⟨b,s4⟩
   exact e_mk (by omega) ht x1 (mem2 (e_mk (by omega) (zZ hT he s1).1 x2 (mem1 x3)) (wr h4 w5).1)
  .rcases h2:xt T e (advS s) 3 with ⟨x,s2⟩
   obtain ⟨x2,w2⟩:=wd (by decide) h2 w0
   have w3:=(Mo.take (T:=T) (e:=e) s2 (xa (l:=[61]) (by simp))).wfO w2
   simp only;rcases h3:R (xf T e s2 (⟨#[61]⟩:ByteArray)) with ⟨a,s3⟩
   obtain ⟨x3,w4⟩:=wr h3 w3;have w5:=(Mo.take (T:=T) (e:=e) s3 (xa (l:=[105,110]) (by simp))).wfO w4
   simp only;rcases h4:R (xf T e s3 (⟨#[105,110]⟩:ByteArray)) with ⟨b,s4⟩
   exact e_mk (by omega) ht x2 (mem2 x3 (wr h4 w5).1)
 refine iteR (fun h=>?_) (fun _=>?_)
 .have w0:=(Mo.advS h (xa (l:=[105,102]) (by simp))).wfO hs
  rcases h1:R (advS s) with ⟨a,s1⟩
  obtain ⟨x1,w1⟩:=wr h1 w0;have w2:=(Mo.take (T:=T) (e:=e) s1 (xa (l:=[116,104,101,110]) (by simp))).wfO w1
  simp only;rcases h2:R (xf T e s1 (⟨#[116,104,101,110]⟩:ByteArray)) with ⟨b,s2⟩
  obtain ⟨x2,w3⟩:=wr h2 w2;have w4:=(Mo.take (T:=T) (e:=e) s2 (xa (l:=[101,108,115,101]) (by simp))).wfO w3
  simp only;rcases h3:R (xf T e s2 (⟨#[101,108,115,101]⟩:ByteArray)) with ⟨c,s3⟩
  exact e_mk (by omega) ht x8 (mem3 x1 x2 (wr h3 w4).1)
 refine iteR (fun h=>match_o hT he hRb hR hTl ht _ ((Mo.advS h (xa (l:=[109,97,116,99,104]) (by simp))).wfO hs)) (fun _=>?_)
 refine iteR (fun h=>?_) (fun _=>?_)
 .have w0:=(Mo.advS h (xa (l:=[116,114,121]) (by simp))).wfO hs
  rcases h1:R (advS s) with ⟨a,s1⟩
  obtain ⟨x1,w1⟩:=wr h1 w0;have w2:=(Mo.take (T:=T) (e:=e) s1 (xa (l:=[119,105,116,104]) (by simp))).wfO w1
  simp only;rcases h2:xt T e (xf T e s1 (⟨#[119,105,116,104]⟩:ByteArray)) 3 with ⟨x,s2⟩
  obtain ⟨x2,w3⟩:=wd (by decide) h2 w2
  have w4:=(Mo.take (T:=T) (e:=e) s2 (xa (l:=[45,62]) (by simp))).wfO w3
  simp only;rcases h3:R (xf T e s2 (⟨#[45,62]⟩:ByteArray)) with ⟨b,s3⟩
  exact e_mk (by omega) ht x2 (mem2 x1 (wr h3 w4).1)
 have b:=setF_o hT he hRb hR (T.length+1) s hs;have mb:=(set_b hRb (e:=e) (T.length+1) s).1;rcases h1:setF T e R (T.length+1) s with ⟨a,s1⟩
 rw [h1] at b mb
 refine iteR (fun h=>?_) (fun _=>b)
 have w1:=(Mo.advS h (xa (l:=[59]) (by simp))).wfO (mb.wfO hs)
 rcases h2:R (advS s1) with ⟨c,s2⟩
 exact e_mk (by omega) (zZ hT he s1).1 x8 (mem2 b (wr h2 w1).1)
end
theorem expr_o(hTl:T.length<=10000)(k:Nat):∀ s,s.i<=T.length->AllT EOk (uA T e k s).1:=by
 induction k with
 | zero=>intro s _;unfold uA;exact iteR (fun _=>E0_o) (fun _=>E0_o)
 | succ k ih=>exact fun s hs=>xbL hT he (U1 k) ih hTl s hs
omit hT he in
theorem lay_ok{t:ET}(h:AllT EOk t)(hs:t.size<=600):(∀ y∈Arb.lay EI.node 0 t,y.ok)/\smS MNode.sm (Arb.lay EI.node 0 t):=by
 have hl:=AllT.lay EI.node t h 0;refine ⟨fun y hy=>?_,?_,fun y hy=>?_⟩
 .obtain ⟨a,ks,rfl,⟨a1,a2,a3,a4,a5,a6⟩,h1,h2⟩:=hl y hy
  exact ⟨a1,a2,a3,by show a.s.size<=maxLen;unfold maxLen;omega,fun k hk=>⟨by have:=(h2 k hk).1;omega,by have:=(h2 k hk).2;omega⟩,fun q hq=>(a6 q hq).1⟩
 .rw [Arb.lay_len];omega
 .obtain ⟨a,ks,rfl,⟨a1,a2,a3,a4,a5,a6⟩,h1,h2⟩:=hl y hy
  exact ⟨by show a.s.size<=1048576;omega,⟨by show ks.length<=1048576;omega,fun _ _=>trivial⟩,by show a.pats.length<=1048576;omega,fun q hq=>(a6 q hq).2⟩
end
end
section
section
variable {T:List MTok} {e:Int}
theorem vI(s:PS)(c:Int):(xG T e s c).seen=s.seen:=by unfold xG;split<;>rfl
theorem wR(s:PS)(x:ByteArray):(xf T e s x).seen=s.seen:=by unfold xf;split;rfl;exact vI _ _
theorem wS(s:PS)(k:Int):(xt T e s k).2.seen=s.seen:=by unfold xt;split;rfl;exact vI _ _
theorem deep_seen(s:PS)(b:Bool):(wl T e s b).seen=s.seen:=by unfold wl;split<;>exact vI _ _
theorem adv_seen(s:PS):(advS s).seen=s.seen:=rfl
section
variable {R:PS->List TyI×PS} (hR:∀ s,(R s).2.seen=s.seen)
include hR
theorem xbm(s:PS):(yr T e R s).2.seen=s.seen:=by
 unfold yr;split
 .split
  .rfl
  .exact vI _ _
 .split
  .rfl
  .split
   rename_i a s1 h1;have b1:=hR (xf T e s (⟨#[40]⟩:ByteArray));rw [h1,wR] at b1
   split
   .split
    rename_i b s2 h2;have b2:=hR (advS s1);rw [h2,adv_seen] at b2
    split;rename_i nm s3 h3;have b3:=wS (T:=T) (e:=e) (xf T e s2 (⟨#[41]⟩:ByteArray)) 3;rw [h3,wR] at b3
    exact b3.trans (b2.trans b1)
   .exact (wR _ _).trans b1
omit hR in
theorem appl_seen(n:Nat):∀ (a:List TyI) (s:PS),(yS T e n a s).2.seen=s.seen:=by
 induction n with
 | zero=>intro a s;rfl
 | succ n ih=>
  intro a s;unfold yS;split
  .exact ih _ _
  .rfl
theorem prod_seen(n:Nat):∀ s,(y7 T e R n s).2.seen=s.seen:=by
 induction n with
 | zero=>intro s;rfl
 | succ n ih=>
  intro s;unfold y7;split;rename_i a0 s0 h0;have b0:=xbm hR (T:=T) (e:=e) s;rw [h0] at b0
  split;rename_i a s1 h1;have b1:=appl_seen (T:=T) (e:=e) (T.length+1) a0 s0;rw [h1] at b1
  split
  .split
   rename_i b s2 h2;have b2:=ih (advS s1);rw [h2] at b2
   exact b2.trans (b1.trans b0)
  .exact b1.trans b0
theorem xbf(s:PS):(wB T e R s).2.seen=s.seen:=by
 unfold wB;split
 .split
  rename_i a s1 h1;have b1:=prod_seen hR (T:=T) (e:=e) (T.length+1) s;rw [h1] at b1
  split
  .split
   rename_i b s2 h2;have b2:=hR (advS s1);rw [h2] at b2
   exact b2.trans b1
  .exact b1
 .rfl
end
theorem ty_seen(k:Nat):∀ s,(tyF T e k s).2.seen=s.seen:=by
 induction k with
 | zero=>
  intro s;unfold tyF;split
  .exact deep_seen s _
  .rfl
 | succ k ih=>intro s;exact xbf ih s
theorem con_seen(s:PS):(conS T e s).2.seen=s.seen:=by
 unfold conS;split;rename_i nm s1 h1;have b1:=wS (T:=T) (e:=e) s 4;rw [h1] at b1
 split
 .split
  rename_i a s2 h2;have b2:=ty_seen (T:=T) (e:=e) 101 (advS s1);rw [h2] at b2
  exact b2.trans b1
 .exact b1
theorem head_seen(s0:PS):(yj T e s0).2.seen=s0.seen:=by
 unfold yj;simp only;split
 .refine (wS _ _).trans ?_
  refine (wR _ _).trans ?_;refine (wS _ _).trans ?_;split
  .refine (vI _ _).trans ?_
   refine (wR _ _).trans ?_;exact (wS _ _).trans rfl
  .refine (wR _ _).trans ?_
   exact (wS _ _).trans rfl
 .split
  .exact (wS _ _).trans rfl
  .exact (wS _ _).trans rfl
theorem xby(n:Nat):∀ (l:List MCon) (s:PS),(yD T e n l s).2.seen=s.seen:=by
 induction n with
 | zero=>intro l s;rfl
 | succ n ih=>
  intro l s;unfold yD;split
  .split
   rename_i c s1 h1;have b:=con_seen (T:=T) (e:=e) s;rw [h1] at b
   split
   .exact (ih _ _).trans b
   .exact b
  .rfl
theorem type_seen(s:PS):(wc T e s).2.seen=s.seen:=by
 unfold wc;split;rename_i t s1 h1;have b:=head_seen (T:=T) (e:=e) s;rw [h1] at b
 split;rename_i l s2 h2;have c:=xby (T:=T) (e:=e) (T.length+1) [] (xf T e s1 (⟨#[61]⟩:ByteArray));rw [h2] at c
 exact (wR _ _).trans (c.trans ((wR _ _).trans b))
end
def Cz(a b:PS):Prop:=a.code=0->b.code=0
theorem Cz.trans{a b c:PS}(h:Cz a b)(h':Cz b c):Cz a c:=fun q=>h' (h q)
section
variable {T:List MTok} {e:Int}
theorem X5(s:PS)(c:Int):Cz (xG T e s c) s:=fun h=>by
 unfold xG at h
 split at h
 .assumption
 .exact h
theorem uJ(s:PS)(x:ByteArray):Cz (xf T e s x) s:=by
 unfold xf;split
 .exact fun h=>h
 .exact X5 _ _
theorem vE(s:PS)(k:Int):Cz (xt T e s k).2 s:=by
 unfold xt;split
 .exact fun h=>h
 .exact X5 _ _
theorem Xq(s:PS):Cz (advS s) s:=fun h=>h
section
variable {R:PS->List TyI×PS} (hR:∀ s,Cz (R s).2 s)
include hR
theorem atom0_cz(s:PS):Cz (yr T e R s).2 s:=by
 unfold yr;split
 .split
  .exact Xq s
  .exact X5 _ _
 .split
  .exact Xq s
  .have b1:=(hR (xf T e s (⟨#[40]⟩:ByteArray))).trans (uJ s _)
   rcases h1:R (xf T e s (⟨#[40]⟩:ByteArray)) with ⟨a,s1⟩
   rw [h1] at b1
   simp only;split
   .have b2:=(hR (advS s1)).trans (Xq s1)
    rcases h2:R (advS s1) with ⟨b,s2⟩
    rw [h2] at b2
    simp only;have b3:=(vE (T:=T) (e:=e) (xf T e s2 (⟨#[41]⟩:ByteArray)) 3).trans (uJ s2 _);rcases h3:xt T e (xf T e s2 (⟨#[41]⟩:ByteArray)) 3 with ⟨nm,s3⟩
    rw [h3] at b3
    exact b3.trans (b2.trans b1)
   .exact (uJ _ _).trans b1
omit hR in
theorem appl_cz(n:Nat):∀ (a:List TyI) (s:PS),Cz (yS T e n a s).2 s:=by
 induction n with
 | zero=>intro a s;exact fun h=>h
 | succ n ih=>
  intro a s;unfold yS;split
  .exact (ih _ _).trans (Xq s)
  .exact fun h=>h
theorem prod_cz(n:Nat):∀ s,Cz (y7 T e R n s).2 s:=by
 induction n with
 | zero=>intro s;exact fun h=>h
 | succ n ih=>
  intro s;unfold y7;have b0:=atom0_cz hR (T:=T) (e:=e) s;rcases h0:yr T e R s with ⟨a0,s0⟩
  rw [h0] at b0
  have b1:=appl_cz (T:=T) (e:=e) (T.length+1) a0 s0;simp only;rcases h1:yS T e (T.length+1) a0 s0 with ⟨a,s1⟩
  rw [h1] at b1
  simp only;split
  .have b2:=(ih (advS s1)).trans (Xq s1)
   rcases h2:y7 T e R n (advS s1) with ⟨b,s2⟩
   rw [h2] at b2
   exact b2.trans (b1.trans b0)
  .exact b1.trans b0
theorem tyStep_cz(s:PS):Cz (wB T e R s).2 s:=by
 unfold wB;split
 .have b1:=prod_cz hR (T:=T) (e:=e) (T.length+1) s
  rcases h1:y7 T e R (T.length+1) s with ⟨a,s1⟩
  rw [h1] at b1
  simp only;split
  .have b2:=(hR (advS s1)).trans (Xq s1)
   rcases h2:R (advS s1) with ⟨b,s2⟩
   rw [h2] at b2
   exact b2.trans b1
  .exact b1
 .exact fun h=>h
end
theorem ty_cz(k:Nat):∀ s,Cz (tyF T e k s).2 s:=by
 induction k with
 | zero=>
  intro s;unfold tyF;split
  .unfold wl;split<;>exact X5 _ _
  .exact fun h=>h
 | succ k ih=>exact fun s=>tyStep_cz ih s
theorem con_cz(s:PS):Cz (conS T e s).2 s:=by
 unfold conS;have w:=vE (T:=T) (e:=e) s 4;rcases h1:xt T e s 4 with ⟨nm,s1⟩
 rw [h1] at w
 simp only;split
 .have b:=(ty_cz (T:=T) (e:=e) 101 (advS s1)).trans (Xq s1)
  rcases h2:tyF T e 101 (advS s1) with ⟨a,s2⟩
  rw [h2] at b
  exact b.trans w
 .exact w
theorem W9(n:Nat):∀ (l:List MCon) (s:PS),Cz (yD T e n l s).2 s/\l.length<=(yD T e n l s).1.length:=by
 induction n with
 | zero=>intro l s;exact ⟨fun h=>h,Nat.le_refl _⟩
 | succ n ih=>
  intro l s;unfold yD;split
  .have b:=con_cz (T:=T) (e:=e) s
   rcases h1:conS T e s with ⟨c,s1⟩
   rw [h1] at b
   simp only;split
   .obtain ⟨q1,q2⟩:=ih (l++[c]) (advS s1)
    rw [List.length_append,List.length_singleton] at q2
    exact ⟨(q1.trans (Xq s1)).trans b,by omega⟩
   .exact ⟨b,by rw [List.length_append,List.length_singleton];omega⟩
  .exact ⟨fun h=>h,Nat.le_refl _⟩
theorem cons1_pos(n:Nat)(l:List MCon)(s:PS)(h:(yD T e (n+1) l s).2.code=0):1<=(yD T e (n+1) l s).1.length:=by
 have z:=(W9 (T:=T) (e:=e) (n+1) l s).1 h;unfold yD;rw [if_pos z];rcases h1:conS T e s with ⟨c,s1⟩
 simp only;split
 .have:=(W9 (T:=T) (e:=e) n (l++[c]) (advS s1)).2
  rw [List.length_append,List.length_singleton] at this
  omega
 .rw [List.length_append,List.length_singleton];omega
theorem head_cz(s0:PS):Cz (yj T e s0).2 s0:=by
 unfold yj;simp only;split
 .refine (vE _ _).trans (fun h=>?_)
  have h:=uJ _ _ h;have h:=vE _ _ h;split at h
  .have h:=X5 _ _ h
   have h:=uJ _ _ h;have h:=vE _ _ h;exact h
  .have h:=uJ _ _ h
   have h:=vE _ _ h;exact h
 .split
  .exact (vE _ _).trans (fun h=>h)
  .exact (vE _ _).trans (fun h=>h)
theorem type_cz(s:PS):Cz (wc T e s).2 s/\((wc T e s).2.code=0->1<=(wc T e s).1.cons.length):=by
 unfold wc;have b:=head_cz (T:=T) (e:=e) s;rcases h1:yj T e s with ⟨t,s1⟩
 rw [h1] at b
 have c:=(W9 (T:=T) (e:=e) (T.length+1) [] (xf T e s1 (⟨#[61]⟩:ByteArray))).1;have p:=cons1_pos (T:=T) (e:=e) T.length [] (xf T e s1 (⟨#[61]⟩:ByteArray));simp only;rcases h2:yD T e (T.length+1) [] (xf T e s1 (⟨#[61]⟩:ByteArray)) with ⟨l,s2⟩
 rw [h2] at c p
 exact ⟨(uJ _ _).trans (c.trans ((uJ _ _).trans b)),fun h=>p (uJ _ _ h)⟩
theorem types_pos(n:Nat):∀ (l:List MType) (s:PS),(∀ t∈l,1<=t.cons.length)->(y9 T e n l s).2.code=0->(∀ t∈(y9 T e n l s).1,1<=t.cons.length)/\s.code=0:=by
 induction n with
 | zero=>intro l s h z;exact ⟨h,z⟩
 | succ n ih=>
  intro l s h z;unfold y9 at z ⊢
  split
  .rename_i q
   rw [if_pos q] at z
   have b:=type_cz (T:=T) (e:=e) (advS s);rcases h1:wc T e (advS s) with ⟨t,s1⟩
   rw [h1] at b z
   have hh:∀ y∈l++[t],s1.code=0->1<=y.cons.length:=fun y hy zz=>by
    rcases List.mem_append.1 hy with w|w
    .exact h y w
    .rw [List.mem_singleton.1 w];exact b.2 zz
   have key:(y9 T e n (l++[t]) s1).2.code=0->s1.code=0:=by
    clear hh b h1 q h;generalize l++[t]=l';clear z
    revert l' s1
    clear ih
    induction n with
    | zero=>intro s1 l' z;exact z
    | succ n ih=>
     intro s1 l' z;unfold y9 at z
     split at z
     .have b:=type_cz (T:=T) (e:=e) (advS s1)
      rcases h2:wc T e (advS s1) with ⟨t2,s2⟩
      rw [h2] at b z
      exact b.1 (ih s2 _ z)
     .exact z
   have z1:=key z;exact ⟨(ih (l++[t]) s1 (fun y hy=>hh y hy z1) z).1,b.1 z1⟩
  .rename_i q
   rw [if_neg q] at z
   exact ⟨h,z⟩
end
end
section
open Arb
def TI(x:TyI):Prop:=I64 x.v/\x.name.size<=4000/\I64 x.ar
theorem ty1_i{name:ByteArray}{l:List (List TyI)}(hn:name.size<=4000)(hl:l.length<=2)(h:∀ a∈l,∀ x∈a,TI x):∀ x∈ty1 name l,TI x:=fun x hx=>by
 unfold ty1 at hx
 rcases List.mem_cons.1 hx with q|q
 .subst q;exact ⟨z64,hn,⟨by show (-9223372036854775808:Int)<=(l.length:Nat);omega,by show ((l.length:Nat):Int)<=9223372036854775807;omega⟩⟩
 .obtain ⟨a,ha,hx⟩:=List.mem_flatten.1 q
  exact h a ha x hx
theorem Ug(v:Int):∀ (l:List Int) (k r:Nat),ww v l k r<=r\/ww v l k r<=k+l.length
 | [],k,r=>.inl (Nat.le_refl _)
 | x::l,k,r=>by
  show ww v l (k+1) (if x=v then k else r)<=_\/ww v l (k+1) (if x=v then k else r)<=_
  rw [List.length_cons]
  by_cases h:x=v
  .rw [if_pos h]
   have:=Ug v l (k+1) k
   right;omega
  .rw [if_neg h]
   have:=Ug v l (k+1) r;omega
section
variable {T:List MTok} {e:Int} (hT:∀ t∈T,TB t) (he:I64 e)
include hT he
theorem Wh(s:PS)(k:Int):(xt T e s k).1.size<=4000:=by
 unfold xt;split
 .exact (zZ hT he s).2.2
 .exact x8
section
variable {R:PS->List TyI×PS} (hR:∀ s,s.vars.length<=1000->∀ x∈(R s).1,TI x) (hvv:∀ s,(R s).2.vars=s.vars)
include hR hvv
theorem atom0_i(s:PS)(hv:s.vars.length<=1000):∀ x∈(yr T e R s).1,TI x:=by
 unfold yr;split
 .split
  .have:=Ug (tokS T e s).n s.vars 0 0
   exact mem1 ⟨⟨by show (-9223372036854775808:Int)<=(ww _ _ _ _:Nat);omega,by show ((ww _ _ _ _:Nat):Int)<=9223372036854775807;omega⟩,x8,z64⟩
  .exact xR
 .split
  .exact ty1_i (zZ hT he s).2.2 (by simp) (fun a ha=>by cases ha)
  .have b1:=hR (xf T e s (⟨#[40]⟩:ByteArray)) (by rw [zO];exact hv)
   have v1:=hvv (xf T e s (⟨#[40]⟩:ByteArray));rcases h1:R (xf T e s (⟨#[40]⟩:ByteArray)) with ⟨a,s1⟩
   rw [h1] at b1 v1
   rw [zO] at v1
   simp only;split
   .have b2:=hR (advS s1) (by show s1.vars.length<=1000;have v1:s1.vars=s.vars:=v1;rw [v1];exact hv)
    rcases h2:R (advS s1) with ⟨b,s2⟩
    rw [h2] at b2
    simp only;have w:=Wh hT he (xf T e s2 (⟨#[41]⟩:ByteArray)) 3;rcases h3:xt T e (xf T e s2 (⟨#[41]⟩:ByteArray)) 3 with ⟨nm,s3⟩
    rw [h3] at w
    exact ty1_i w (by simp) (fun c hc=>by
     rcases List.mem_cons.1 hc with q|q
     .rw [q];exact b1
     .rw [List.mem_singleton.1 q];exact b2)
   .exact b1
omit hR hvv in
theorem appl_i(n:Nat):∀ (a:List TyI) (s:PS),(∀ x∈a,TI x)->∀ x∈(yS T e n a s).1,TI x:=by
 induction n with
 | zero=>intro a s h;exact h
 | succ n ih=>
  intro a s h;unfold yS;split
  .exact ih _ _ (ty1_i (zZ hT he s).2.2 (by simp) (mem1 h))
  .exact h
theorem prod_i(n:Nat):∀ s,s.vars.length<=1000->∀ x∈(y7 T e R n s).1,TI x:=by
 induction n with
 | zero=>intro s _;exact xR
 | succ n ih=>
  intro s hv;unfold y7;have b0:=atom0_i hT he hR hvv s hv;have v0:=Y2 hvv (T:=T) (e:=e) s;rcases h0:yr T e R s with ⟨a0,s0⟩
  rw [h0] at b0 v0
  have b1:=appl_i hT he (T.length+1) a0 s0 b0;have v1:=ZB (T:=T) (e:=e) (T.length+1) a0 s0;simp only;rcases h1:yS T e (T.length+1) a0 s0 with ⟨a,s1⟩
  rw [h1] at b1 v1
  simp only;split
  .have b2:=ih (advS s1) (by show s1.vars.length<=1000;have v1:s1.vars=s0.vars:=v1;have v0:s0.vars=s.vars:=v0;rw [v1,v0];exact hv)
   rcases h2:y7 T e R n (advS s1) with ⟨b,s2⟩
   rw [h2] at b2
   exact ty1_i (by decide) (by simp) (fun c hc=>by
    rcases List.mem_cons.1 hc with q|q
    .rw [q];exact b1
    .rw [List.mem_singleton.1 q];exact b2)
  .exact b1
theorem tyStep_i(s:PS)(hv:s.vars.length<=1000):∀ x∈(wB T e R s).1,TI x:=by
 unfold wB;split
 .have b1:=prod_i hT he hR hvv (T.length+1) s hv
  have v1:=Wb hvv (T:=T) (e:=e) (T.length+1) s;rcases h1:y7 T e R (T.length+1) s with ⟨a,s1⟩
  rw [h1] at b1 v1
  simp only;split
  .have b2:=hR (advS s1) (by show s1.vars.length<=1000;have v1:s1.vars=s.vars:=v1;rw [v1];exact hv)
   rcases h2:R (advS s1) with ⟨b,s2⟩
   rw [h2] at b2
   exact ty1_i (by decide) (by simp) (fun c hc=>by
    rcases List.mem_cons.1 hc with q|q
    .rw [q];exact b1
    .rw [List.mem_singleton.1 q];exact b2)
  .exact b1
 .exact xR
end
theorem ty_i(k:Nat):∀ s,s.vars.length<=1000->∀ x∈(tyF T e k s).1,TI x:=by
 induction k with
 | zero=>intro s _;unfold tyF;split<;>exact xR
 | succ k ih=>exact fun s hv=>tyStep_i hT he ih (VJ k) s hv
def CI(c:MCon):Prop:=c.name.size<=4000/\(∀ x∈c.arg,TI x)/\c.arg.length<=20000
theorem con_i(hTl:T.length<=10000)(s:PS)(hs:s.i<=T.length)(hv:s.vars.length<=1000):CI (conS T e s).1:=by
 have hl:=(con_arg (T:=T) (e:=e) s).1;have hb:=(UX (T:=T) (e:=e) s).2 hs;have key:(conS T e s).1.name.size<=4000/\∀ x∈(conS T e s).1.arg,TI x:=by
  unfold conS;have w:=Wh hT he s 4;have v:=zc (T:=T) (e:=e) s 4;rcases h1:xt T e s 4 with ⟨nm,s1⟩
  rw [h1] at w v
  simp only;split
  .have b:=ty_i hT he 101 (advS s1) (by show s1.vars.length<=1000;have v:s1.vars=s.vars:=v;rw [v];exact hv)
   rcases h2:tyF T e 101 (advS s1) with ⟨a,s2⟩
   rw [h2] at b
   exact ⟨w,b⟩
  .exact ⟨w,xR⟩
 exact ⟨key.1,key.2,by omega⟩
theorem cons1_i(hTl:T.length<=10000)(n:Nat):∀ (l:List MCon) (s:PS),s.i<=T.length->s.vars.length<=1000->(∀ c∈l,CI c)->∀ c∈(yD T e n l s).1,CI c:=by
 induction n with
 | zero=>intro l s _ _ h;exact h
 | succ n ih=>
  intro l s hs hv h;unfold yD;split
  .have b:=con_i hT he hTl s hs hv
   have v:=Q5 (T:=T) (e:=e) s;have m:=(UX (T:=T) (e:=e) s).2 hs;rcases h1:conS T e s with ⟨c,s1⟩
   rw [h1] at b v m
   have k1:∀ y∈l++[c],CI y:=fun y hy=>by
    rcases List.mem_append.1 hy with z|z
    .exact h y z
    .rw [List.mem_singleton.1 z];exact b
   simp only;split
   .rename_i q
    exact ih _ (advS s1) (xA q (xa (l:=[124]) (by simp))).2 (by show s1.vars.length<=1000;have v:s1.vars=s.vars:=v;rw [v];exact hv) k1
   .exact k1
  .exact h
def TyO(t:MType):Prop:=t.name.size<=4000/\I64 t.params/\∀ c∈t.cons,CI c
theorem head_i(s0:PS):(yj T e s0).1.name.size<=4000/\I64 (yj T e s0).1.params:=by
 unfold yj;simp only;split
 .exact ⟨Wh hT he _ 3,i64c (k:=2) (by omega) (by omega)⟩
 .split
  .exact ⟨Wh hT he _ 3,i64c (k:=1) (by omega) (by omega)⟩
  .exact ⟨Wh hT he _ 3,z64⟩
theorem type_i(hTl:T.length<=10000)(s:PS)(hs:s.i<=T.length):TyO (wc T e s).1:=by
 unfold wc;have b:=head_i hT he s;have m:=Vp (T:=T) (e:=e) s;rcases h1:yj T e s with ⟨t,s1⟩
 rw [h1] at b m
 have w1:s1.i<=T.length:=m.1.2 hs;have w2:(xf T e s1 (⟨#[61]⟩:ByteArray)).i<=T.length:=(Mo.take (T:=T) (e:=e) s1 (xa (l:=[61]) (by simp))).wfO w1
 have c:=cons1_i hT he hTl (T.length+1) [] (xf T e s1 (⟨#[61]⟩:ByteArray)) w2 (by rw [zO];have:s1.vars.length<=2:=m.2;omega) xR
 simp only;rcases h2:yD T e (T.length+1) [] (xf T e s1 (⟨#[61]⟩:ByteArray)) with ⟨l,s2⟩
 rw [h2] at c
 exact ⟨b.1,b.2,c⟩
theorem types_i(hTl:T.length<=10000)(n:Nat):∀ (l:List MType) (s:PS),s.i<=T.length->(∀ t∈l,TyO t)->(∀ t∈(y9 T e n l s).1,TyO t)/\(y9 T e n l s).2.i<=T.length:=by
 induction n with
 | zero=>intro l s hs h;exact ⟨h,hs⟩
 | succ n ih=>
  intro l s hs h;unfold y9;split
  .rename_i q
   have w:=(xA q (xa (l:=[116,121,112,101]) (by simp))).2
   have b:=type_i hT he hTl (advS s) w;have m:=(type_bd (T:=T) (e:=e) (advS s)).2 w;rcases h1:wc T e (advS s) with ⟨t,s1⟩
   rw [h1] at b m
   exact ih _ s1 m (fun y hy=>by
    rcases List.mem_append.1 hy with z|z
    .exact h y z
    .rw [List.mem_singleton.1 z];exact b)
  .exact ⟨h,hs⟩
omit hT he in
theorem tyO_ok{t:MType}(h:TyO t)(hc:t.cons.length<=8):t.ok/\t.sm:=by
 refine ⟨⟨by have:=h.1;unfold maxLen;omega,h.2.1,fun c hc=>?_⟩,by have:=h.1;show t.name.size<=1048576;omega,by omega,fun c hc=>?_⟩
 .obtain ⟨h1,h2,h3⟩:=h.2.2 c hc
  exact ⟨by unfold maxLen;omega,trivial,fun x hx=>⟨(h2 x hx).1,by have:=(h2 x hx).2.1;unfold maxLen;omega,(h2 x hx).2.2⟩⟩
 .obtain ⟨h1,h2,h3⟩:=h.2.2 c hc
  exact ⟨by omega,by omega,fun x hx=>by have:=(h2 x hx).2.1;show x.name.size<=1048576;omega⟩
end
structure Good(p:MProgram):Prop where
 ok:p.ok
 sm:p.sm
 few:p.nodes.length<=600
 tys:p.types.length<=8
 con:∀ t∈p.types,1<=t.cons.length
theorem Uc:Good ⟨[],[]⟩:=⟨⟨xR,xR⟩,⟨⟨by decide,xR⟩,⟨by decide,xR⟩⟩,by decide,by decide,xR⟩
theorem parT_good{T:List MTok}{e:Int}(hT:∀ t∈T,TB t)(he:I64 e)(hTl:T.length<=10000):Good (parT T e).1:=by
 unfold parT U6;have a:=types_i hT he hTl (T.length+1) [] ⟨0,0,0,[],[]⟩ (Nat.zero_le _) xR;have pz:=types_pos (T:=T) (e:=e) (T.length+1) [] ⟨0,0,0,[],[]⟩ xR;rcases h1:y9 T e (T.length+1) [] ⟨0,0,0,[],[]⟩ with ⟨ts,s1⟩
 rw [h1] at a pz
 have ez:=(U1 (T:=T) (e:=e) 101 s1).1.2.2.2;have b:=expr_o hT he hTl 101 s1 a.2;simp only;rcases h2:uA T e 101 s1 with ⟨t,s2⟩
 rw [h2] at b ez
 simp only;have hz:(if s2.code=0/\s2.i<T.length then xG T e s2 7 else s2).code=0->s2.code=0:=by
  split
  .rename_i q;exact fun _=>q.1
  .exact fun h=>h
 generalize (if s2.code=0/\s2.i<T.length then xG T e s2 7 else s2)=s3 at hz ⊢
 split
 .exact Uc
 .rename_i hc3
  have hc3:s3.code=0:=by simpa using hc3
  split
  .exact Uc
  .rename_i h
   simp only [not_or] at h
   obtain ⟨q1,q2,q3⟩:=h;have hl:=lay_ok b (by show t.size<=600;omega)
   have hc:∀ y∈ts,y.cons.length<=8:=fun y hy=>by
    rcases Nat.lt_or_ge 8 y.cons.length with z|z
    .exact absurd (List.any_eq_true.2 ⟨y,hy,by simpa using z⟩) q3
    .exact z
   refine ⟨⟨fun y hy=>(tyO_ok (a.1 y hy) (hc y hy)).1,hl.1⟩,⟨⟨by show ts.length<=1048576;omega,fun y hy=>(tyO_ok (a.1 y hy) (hc y hy)).2⟩,hl.2⟩,?_,by show ts.length<=8;omega,(pz (ez (hz hc3))).1⟩
   show (Arb.lay EI.node 0 t).length<=600;rw [Arb.lay_len];omega
end
section
open Go.RowKit Arb
theorem FCon.argNil{P:Program}{f:FuncId}{e k:Nat}{args:List D}{Rs:D->List D->Prop}(h:FCon P f (.osl e k []::args) Rs):FCon P f (.nil::args) Rs:=
 ⟨h.ent,fun w g vs h1 h2 h3 h4=>h.run w g vs h1 h2 (by simpa using h3) (fun j d u hd hu=>by
  cases j with
  | zero=>
   simp at hd;subst hd
   exact Rep.nil_osl e k (show Rep g.S g.up w (some (.par 0 0)) .nil u from h4 0 _ u rfl hu)
  | succ j=>exact h4 (j+1) d u (by simpa using hd) hu)⟩
end
section
attribute [local go_sem] List.length_append List.map_append
open Go.RowKit Arb
mutual
def pV:PT->List D
 | .mk a l=>[.s (.int .i64 a.kind),.s (.int .i64 a.n),.s (.string a.s),.nil,.osl 275 5 (pVL l)]
def pVL:List PT->List (List D)
 | []=>[]
 | t::l=>pV t::pVL l
end
mutual
def pF:PT->List D
 | .mk a l=>[.s (.int .i64 a.kind),.s (.int .i64 a.n),.s (.string a.s),.nil,.sl 5 (pFL l)]
def pFL:List PT->List (List D)
 | []=>[]
 | t::l=>pF t::pFL l
end
theorem pVL_map(l:List PT):pVL l=l.map pV:=by
 induction l with
 | nil=>rfl
 | cons t l ih=>rw [pVL,ih];rfl
theorem pFL_map(l:List PT):pFL l=l.map pF:=by
 induction l with
 | nil=>rfl
 | cons t l ih=>rw [pFL,ih];rfl
theorem wZ(a:PI)(l:List PT):pV (.mk a l)=[.s (.int .i64 a.kind),.s (.int .i64 a.n),.s (.string a.s),.nil,.osl 275 5 (l.map pV)]:=by rw [pV,pVL_map]
theorem pF_mk(a:PI)(l:List PT):pF (.mk a l)=[.s (.int .i64 a.kind),.s (.int .i64 a.n),.s (.string a.s),.nil,.sl 5 (l.map pF)]:=by rw [pF,pFL_map]
theorem pV_pN(k n:Int)(s:ByteArray)(l:List PT):pV (pN k n s l)=[.s (.int .i64 k),.s (.int .i64 n),.s (.string s),.nil,.osl 275 5 (l.map pV)]:=wZ _ _
theorem pV_frz:∀ t:PT,frzL (pV t)=pF t:=fun t=>by
 induction t using Arb.ind with
 | h a l ih=>
  rw [wZ,pF_mk];have:xU (l.map pV)=l.map pF:=by
   rw [za,List.map_map];exact List.map_congr_left fun x hx=>ih x hx
  simp only [frzL,frz,this]
def nwD(d d':D):Prop:=d'=d\/(d=.nil/\((∃ k,d'=.sl k [])\/∃ e k,d'=.osl e k []))
theorem FCon.agWo{P:Program}{f:FuncId}{args:List D}{xs ys o:List D}(h:FCon P f args (fun r o'=>r=.ag xs/\o'=o))(hl:ys.length=xs.length)(hc:∀ (j:Nat) (x y:D),xs[j]?=some x->ys[j]?=some y->nwD x y):FCon P f args (fun r o'=>r=.ag ys/\o'=o):=h.wk fun r o' e=>by
 obtain ⟨rfl,rfl⟩:=e;refine ⟨_,⟨rfl,rfl⟩,fun g w v q=>?_⟩
 obtain ⟨us,rfl,h1,h2⟩:=q;refine ⟨us,rfl,by rw [hl];exact h1,fun l y u hy hu=>?_⟩
 have hlt:l<xs.length:=by rw [<- hl];exact (List.getElem?_eq_some_iff.1 hy).1
 have hx:xs[l]?=some xs[l]:=List.getElem?_eq_getElem hlt;have hr:=h2 l _ u hx hu;rcases hc l _ y hx hy with e|⟨e,⟨k,e'⟩|⟨e1,k,e'⟩⟩
 .rw [e];exact hr
 .rw [e] at hr;subst e';exact Rep.nil_sl k hr
 .rw [e] at hr;subst e';exact Rep.nil_osl e1 k hr
theorem FCon.pLeaf{P:Program}{f:FuncId}{args o:List D}{k n:Int}{s:ByteArray}(h:FCon P f args (fun r o'=>r=.ag [.s (.int .i64 k),.s (.int .i64 n),.s (.string s),.nil,.nil]/\o'=o)):FCon P f args (fun r o'=>r=.ag (pV (pN k n s []))/\o'=o):=by
 rw [pV_pN];refine h.agWo rfl fun j x y hx hy=>?_
 match j,hx,hy with
 | 0,hx,hy=>left;rw [<- Option.some.inj hx,<- Option.some.inj hy]
 | 1,hx,hy=>left;rw [<- Option.some.inj hx,<- Option.some.inj hy]
 | 2,hx,hy=>left;rw [<- Option.some.inj hx,<- Option.some.inj hy]
 | 3,hx,hy=>left;rw [<- Option.some.inj hx,<- Option.some.inj hy]
 | 4,hx,hy=>right;exact ⟨(Option.some.inj hx).symm,.inr ⟨_,5,(Option.some.inj hy).symm⟩⟩
theorem ba_of{g x:ByteArray}(h:(g.toList==x.toList)=true):g=x:=by
 rw [beq_iff_eq,ByteArray.toList_eq,ByteArray.toList_eq] at h
 exact ByteArray.ext (Array.ext' h)
def WF(T:List MTok)(s:PS):Prop:=s.i<=T.length/\s.seen.length<=s.i
theorem Mo.wf{T:List MTok}{s s':PS}(h:Mo T s s')(w:WF T s):WF T s':=⟨h.2.1 w.1,h.2.2.1 w.2⟩
def CPat(T:List MTok)(e:Int)(R:PS->PT×PS)(d:Int):Prop:=∀ s:PS,WF T s->FT 245 [.opt (rdD T e s),.s (.int .i64 d)] (fun r o=>r=.ag (pV (R s).1)/\o=[.opt (rdD T e (R s).2),.un])
section
variable {T:List MTok} {e:Int} {R:PS->PT×PS}
def PA(T:List MTok)(e:Int)(d:Int)(s:PS)(r:PT×PS):Prop:=FT 264 [.opt (rdD T e s),.s (.int .i64 d)] (fun x o=>x=.ag (pV r.1)/\o=[.opt (rdD T e r.2),.un])
theorem xb1(hT:T.length<=10000)(d:Int)(s:PS)(hs:WF T s)(h3:(tokS T e s).kind=3):PA T e d s (if Zl s (tokS T e s)=true then (P0,xG T e s 8) else (pN 2 0 (tokS T e s).s [],pushS s (tokS T e s).s)):=by
 have ht:=xp T e s;have hse:=VY T e s (tokS T e s) (by have:=hs.2;have:=hs.1;omega)
 have hf:=y3 T e s 8;have hlt:=(xS (by rw [h3];decide)).2
 have hsl:s.seen.length<=10000:=by have:=hs.2;have:=hs.1;omega
 unfold PA;generalize tokS T e s=t at *
 have f3:=kT h3;rw [MTok.enc_eq,xh] at ht hse
 rw [xb,xb] at hf
 cases hq:Zl s t with
 | true=>
  rw [hq] at hse
  rw [if_pos rfl];refine FCon.pLeaf (k:=0) (n:=0) (s:=nS) ?_;rw [xb,xb];refine FI PM Tryz.func264 Tryz.ntmps264 [(7,9,[8],[(8,0)],(lin [8] [0,1,2,3,4,5,6,7,8]))] rfl rfl ?_
  (have hWf:=w3 @xe @xd @f3;repeat' (first|refine zS ?_|refine zI ?_ ?_|refine zK ht ?_|refine zK hse ?_|refine zH hf ?_|exact zF0|refine zD fun hb=>?_|exact zC|refine zT ?_|fail))
  all_goals rfl
 | false=>
  rw [hq] at hse
  rw [if_neg (by decide)]
  refine FCon.pLeaf ?_;show FCon _ _ _ (fun x o=>_/\o=[.opt (rdD T e (pushS s t.s)),.un])
  unfold pushS;rw [xb,xb];refine FI PM Tryz.func264 Tryz.ntmps264 [(7,9,[8],[(8,0)],(lin [8] [0,1,2,3,4,5,6,7,8]))] rfl rfl ?_
  (have hWf:=w3 @xe @xd @f3;repeat' (first|refine zS ?_|refine zI ?_ ?_|refine zK ht ?_|refine zK hse ?_|exact zF0|refine zD fun hb=>?_|exact zC|refine zT ?_|fail))
  all_goals rfl
theorem patom_int(hT:T.length<=10000)(d:Int)(s:PS)(h1:(tokS T e s).kind=1):PA T e d s (pN 3 (tokS T e s).n nS [],advS s):=by
 have ht:=xp T e s;have hlt:=(xS (by rw [h1];decide)).2
 unfold PA;generalize tokS T e s=t at *
 have f3:(t.kind==3)=false:=by rw [h1];rfl
 have f1:=kT h1;rw [MTok.enc_eq,xh] at ht
 refine FCon.pLeaf ?_;show FCon _ _ _ (fun x o=>_/\o=[.opt (rdD T e (advS s)),.un])
 unfold advS;rw [xb,xb];refine FI PM Tryz.func264 Tryz.ntmps264 [(7,9,[8],[(8,0)],(lin [8] [0,1,2,3,4,5,6,7,8]))] rfl rfl ?_
 (have hWf:=w4 @xe @xd @f3 @f1;repeat' (first|refine zS ?_|refine zI ?_ ?_|refine zK ht ?_|exact zF0|refine zD fun hb=>?_|exact zC|refine zT ?_|fail))
 all_goals rfl
theorem xay(u:MTok):uU u=true ↔ ((((((((u.kind=3\/u.kind=1)\/u.kind=4)\/(sgT u).toList=((⟨#[95]⟩:ByteArray)).toList)\/(sgT u).toList=((⟨#[45]⟩:ByteArray)).toList)\/(sgT u).toList=((⟨#[40]⟩:ByteArray)).toList)\/(sgT u).toList=((⟨#[91]⟩:ByteArray)).toList)\/(sgT u).toList=((⟨#[116,114,117,101]⟩:ByteArray)).toList)\/(sgT u).toList=((⟨#[102,97,108,115,101]⟩:ByteArray)).toList):=by
 unfold uU inT isT;simp only [List.any_cons,List.any_nil,Bool.or_false,Bool.or_eq_true,decide_eq_true_eq,beq_iff_eq,or_assoc]
theorem xbZ(hT:T.length<=10000)(d:Int)(s:PS)(h4:(tokS T e s).kind=4)(hpb:uU (tokS T e (advS s))=false):PA T e d s (pN 4 0 (tokS T e s).s [],advS s):=by
 have ht:=xp T e s;have hu:=xp T e (advS s);have hg:=xJ (tokS T e (advS s));have hlt:=(xS (by rw [h4];decide)).2
 have hno:¬ _:=fun q=>by rw [(xay (tokS T e (advS s))).2 q] at hpb;cases hpb
 unfold PA;generalize tokS T e s=t at *
 generalize tokS T e (advS s)=u at *
 have f3:(t.kind==3)=false:=by rw [h4];rfl
 have f1:(t.kind==1)=false:=by rw [h4];rfl
 have f4:=kT h4;unfold advS at hu
 rw [MTok.enc_eq,xh] at ht hu
 rw [MTok.enc_eq] at hg
 refine FCon.pLeaf ?_;show FCon _ _ _ (fun x o=>_/\o=[.opt (rdD T e (advS s)),.un])
 unfold advS;rw [xb,xb];refine FI PM Tryz.func264 Tryz.ntmps264 [(7,9,[8],[(8,0)],(lin [8] [0,1,2,3,4,5,6,7,8]))] rfl rfl ?_
 (have hWf:=w5 @xe @xd @f3 @f1 @f4;repeat' (first|refine zS ?_|refine zI ?_ ?_|refine zK ht ?_|refine zK hu ?_|refine zK hg ?_|exact zF0|refine zD fun hb=>?_|exact zC|refine zT ?_|fail))
 all_goals first
  | rfl
  | (exfalso;apply hno;simp only [or_assoc] at hb ⊢;exact hb)
theorem xb0(hT:T.length<=10000)(d:Int)(s:PS)(h4:(tokS T e s).kind=4)(hpb:uU (tokS T e (advS s))=true){a:PT}{s1:PS}(hi:PA T e d (advS s) (a,s1)):PA T e d s (pN 4 0 (tokS T e s).s [a],s1):=by
 have ht:=xp T e s;have hu:=xp T e (advS s);have hg:=xJ (tokS T e (advS s));have hlt:=(xS (by rw [h4];decide)).2
 have hyes:=(xay (tokS T e (advS s))).1 hpb;unfold PA at *
 generalize tokS T e s=t at *
 generalize tokS T e (advS s)=u at *
 have f3:(t.kind==3)=false:=by rw [h4];rfl
 have f1:(t.kind==1)=false:=by rw [h4];rfl
 have f4:=kT h4;unfold advS at hu hi
 rw [MTok.enc_eq,xh] at ht hu
 rw [MTok.enc_eq] at hg
 obtain ⟨b,l⟩:=a;simp only at hi ⊢
 rw [pV_pN,List.map_cons,List.map_nil];rw [wZ,xb,xb] at hi
 rw [wZ,xb,xb];refine FI PM Tryz.func264 Tryz.ntmps264 [(7,9,[8],[(8,0)],(lin [8] [0,1,2,3,4,5,6,7,8]))] rfl rfl ?_
 (have hWf:=w5 @xe @xd @f3 @f1 @f4;repeat' (first|refine zS ?_|refine zI ?_ ?_|refine zK ht ?_|refine zK hu ?_|refine zK hg ?_|refine zH hi ?_|exact zF0|refine zD fun hb=>?_|exact zC|refine zT ?_|fail))
 all_goals first
  | rfl
  | (exfalso;simp only [ne_eq,<- not_or,or_assoc] at hb hyes;exact hb hyes)
theorem tok_n(T:List MTok)(e:Int)(s:PS)(hT:∀ t∈T,-4611686018427387904<=t.n/\t.n<=4611686018427387904) : -4611686018427387904<=(tokS T e s).n/\(tokS T e s).n<=4611686018427387904:=by
 by_cases h:s.code=0/\s.i<T.length
 .rw [tok_at h.1 h.2];exact hT _ (List.getElem_mem h.2)
 .rw [Zo h];exact ⟨by show (-4611686018427387904:Int)<=0;omega,by show (0:Int)<=4611686018427387904;omega⟩
theorem xb5(hT:T.length<=10000)(d:Int)(hd:0<=d/\d<=1000)(s:PS)(h3:¬ (tokS T e s).kind=3)(h1:¬ (tokS T e s).kind=1)(h4:¬ (tokS T e s).kind=4)(h:isS T e s (⟨#[95]⟩:ByteArray)=true):PA T e d s (pN 1 0 nS [],advS s):=by
 have ht:=xp T e s;have hg:=xJ (tokS T e s);have hlt:=(xA h (xa (l:=[95]) (by simp))).2
 unfold PA at *
 simp only [yn] at *
 generalize tokS T e s=t at *
 have f3:=kF h3;have f1:=kF h1;have f4:=kF h4;rw [MTok.enc_eq,xh] at ht
 rw [MTok.enc_eq] at hg
 refine FCon.pLeaf ?_;show FCon _ _ _ (fun x o=>_/\o=[.opt (rdD T e (advS s)),.un])
 unfold advS;rw [xb,xb];refine FI PM Tryz.func264 Tryz.ntmps264 [(7,9,[8],[(8,0)],(lin [8] [0,1,2,3,4,5,6,7,8]))] rfl rfl ?_
 (have hWf:=w6 @xe @xd @f3 @f1 @f4 @h;repeat' (first|refine zS ?_|refine zI ?_ ?_|refine zK ht ?_|refine zK hg ?_|exact zF0|refine zD fun hb=>?_|exact zC|refine zT ?_|fail))
 all_goals rfl
theorem xb3(hT:T.length<=10000)(d:Int)(hd:0<=d/\d<=1000)(s:PS)(h3:¬ (tokS T e s).kind=3)(h1:¬ (tokS T e s).kind=1)(h4:¬ (tokS T e s).kind=4)(n0:isS T e s (⟨#[95]⟩:ByteArray)=false)(h:isS T e s (⟨#[116,114,117,101]⟩:ByteArray)=true):PA T e d s (pN 4 0 (⟨#[116,114,117,101]⟩:ByteArray) [],advS s):=by
 have ht:=xp T e s;have hg:=xJ (tokS T e s);have hlt:=(xA h (xa (l:=[116,114,117,101]) (by simp))).2
 unfold PA at *
 simp only [yn] at *
 generalize tokS T e s=t at *
 have f3:=kF h3;have f1:=kF h1;have f4:=kF h4;rw [MTok.enc_eq,xh] at ht
 rw [MTok.enc_eq] at hg
 refine FCon.pLeaf ?_;show FCon _ _ _ (fun x o=>_/\o=[.opt (rdD T e (advS s)),.un])
 unfold advS;rw [xb,xb];have hba:=ba_of h;refine FI PM Tryz.func264 Tryz.ntmps264 [(7,9,[8],[(8,0)],(lin [8] [0,1,2,3,4,5,6,7,8]))] rfl rfl ?_
 (have hWf:=w7 @xe @xd @f3 @f1 @f4 @n0 @h;repeat' (first|refine zS ?_|refine zI ?_ ?_|refine zK ht ?_|refine zK hg ?_|exact zF0|refine zD fun hb=>?_|exact zC|refine zT ?_|fail))
 all_goals first|rfl|rw [hba]
theorem xa7(hT:T.length<=10000)(d:Int)(hd:0<=d/\d<=1000)(s:PS)(h3:¬ (tokS T e s).kind=3)(h1:¬ (tokS T e s).kind=1)(h4:¬ (tokS T e s).kind=4)(n0:isS T e s (⟨#[95]⟩:ByteArray)=false)(n1:isS T e s (⟨#[116,114,117,101]⟩:ByteArray)=false)(h:isS T e s (⟨#[102,97,108,115,101]⟩:ByteArray)=true):PA T e d s (pN 4 0 (⟨#[102,97,108,115,101]⟩:ByteArray) [],advS s):=by
 have ht:=xp T e s;have hg:=xJ (tokS T e s);have hlt:=(xA h (xa (l:=[102,97,108,115,101]) (by simp))).2
 unfold PA at *
 simp only [yn] at *
 generalize tokS T e s=t at *
 have f3:=kF h3;have f1:=kF h1;have f4:=kF h4;rw [MTok.enc_eq,xh] at ht
 rw [MTok.enc_eq] at hg
 refine FCon.pLeaf ?_;show FCon _ _ _ (fun x o=>_/\o=[.opt (rdD T e (advS s)),.un])
 unfold advS;rw [xb,xb];have hba:=ba_of h;refine FI PM Tryz.func264 Tryz.ntmps264 [(7,9,[8],[(8,0)],(lin [8] [0,1,2,3,4,5,6,7,8]))] rfl rfl ?_
 (have hWf:=w8 @xe @xd @f3 @f1 @f4 @n0 @n1 @h;repeat' (first|refine zS ?_|refine zI ?_ ?_|refine zK ht ?_|refine zK hg ?_|exact zF0|refine zD fun hb=>?_|exact zC|refine zT ?_|fail))
 all_goals first|rfl|rw [hba]
theorem patom_nil(hT:T.length<=10000)(d:Int)(hd:0<=d/\d<=1000)(s:PS)(h3:¬ (tokS T e s).kind=3)(h1:¬ (tokS T e s).kind=1)(h4:¬ (tokS T e s).kind=4)(n0:isS T e s (⟨#[95]⟩:ByteArray)=false)(n1:isS T e s (⟨#[116,114,117,101]⟩:ByteArray)=false)(n2:isS T e s (⟨#[102,97,108,115,101]⟩:ByteArray)=false)(h:isS T e s (⟨#[91]⟩:ByteArray)=true):PA T e d s (pN 4 0 (⟨#[91,93]⟩:ByteArray) [],xf T e (advS s) (⟨#[93]⟩:ByteArray)):=by
 have ht:=xp T e s;have hg:=xJ (tokS T e s);have hlt:=(xA h (xa (l:=[91]) (by simp))).2
 have htk:=xI T e (advS s) (by omega) (⟨#[93]⟩:ByteArray) (xa (l:=[93]) (by simp))
 unfold PA at *
 simp only [yn] at *
 generalize tokS T e s=t at *
 have f3:=kF h3;have f1:=kF h1;have f4:=kF h4;rw [MTok.enc_eq,xh] at ht
 rw [MTok.enc_eq] at hg
 refine FCon.pLeaf ?_;show FCon _ _ _ (fun x o=>_/\o=[.opt (rdD T e (xf T e (advS s) (⟨#[93]⟩:ByteArray))),.un])
 generalize xf T e (advS s) (⟨#[93]⟩:ByteArray)=s2 at *
 unfold advS at htk
 rw [xb,xb] at htk
 rw [xb,xb];refine FI PM Tryz.func264 Tryz.ntmps264 [(7,9,[8],[(8,0)],(lin [8] [0,1,2,3,4,5,6,7,8]))] rfl rfl ?_
 (have hWf:=w9 @xe @xd @f3 @f1 @f4 @n0 @n1 @n2 @h;repeat' (first|refine zS ?_|refine zI ?_ ?_|refine zK ht ?_|refine zK hg ?_|refine zH htk ?_|exact zF0|refine zD fun hb=>?_|exact zC|refine zT ?_|fail))
 all_goals rfl
theorem xa8(hT:T.length<=10000)(d:Int)(hd:0<=d/\d<=1000)(hTn:∀ t∈T,-4611686018427387904<=t.n/\t.n<=4611686018427387904)(s:PS)(h3:¬ (tokS T e s).kind=3)(h1:¬ (tokS T e s).kind=1)(h4:¬ (tokS T e s).kind=4)(n0:isS T e s (⟨#[95]⟩:ByteArray)=false)(n1:isS T e s (⟨#[116,114,117,101]⟩:ByteArray)=false)(n2:isS T e s (⟨#[102,97,108,115,101]⟩:ByteArray)=false)(n3:isS T e s (⟨#[91]⟩:ByteArray)=false)(h:isS T e s (⟨#[45]⟩:ByteArray)=true):PA T e d s (pN 3 (-(tokS T e (advS s)).n) nS [],(xt T e (advS s) 1).2):=by
 have ht:=xp T e s;have hg:=xJ (tokS T e s);have hlt:=(xA h (xa (l:=[45]) (by simp))).2
 have hu:=xp T e (advS s);have hw:=yO T e (advS s) (by omega) 1 (by decide)
 have hn:=tok_n T e (advS s) hTn;unfold PA at *
 simp only [yn] at *
 generalize tokS T e s=t at *
 have f3:=kF h3;have f1:=kF h1;have f4:=kF h4;rw [MTok.enc_eq,xh] at ht
 rw [MTok.enc_eq] at hg
 refine FCon.pLeaf ?_;show FCon _ _ _ (fun x o=>x=.ag [.s (.int .i64 3),.s (.int .i64 (-(tokS T e (advS s)).n)),.s (.string nS),.nil,.nil]/\o=[.opt (rdD T e (xt T e (advS s) 1).2),.un])
 rcases hq:xt T e (advS s) 1 with ⟨nm,s2⟩
 rw [hq] at hw
 simp only at hw ⊢
 generalize tokS T e (advS s)=u at *
 unfold advS at hw hu
 rw [xb,xb] at hw
 rw [MTok.enc_eq,xh] at hu
 rw [xb,xb];refine FI PM Tryz.func264 Tryz.ntmps264 [(7,9,[8],[(8,0)],(lin [8] [0,1,2,3,4,5,6,7,8]))] rfl rfl ?_
 (have hWf:=w10 @xe @xd @f3 @f1 @f4 @n0 @n1 @n2 @n3 @h;repeat' (first|refine zS ?_|refine zI ?_ ?_|refine zK ht ?_|refine zK hg ?_|refine zK hu ?_|refine zH hw ?_|exact zF0|refine zD fun hb=>?_|exact zC|refine zT ?_|fail))
 all_goals first|rfl|(rw [Int.zero_sub];rfl)
theorem xb4(hT:T.length<=10000)(d:Int)(hd:0<=d/\d<=1000)(s:PS)(h3:¬ (tokS T e s).kind=3)(h1:¬ (tokS T e s).kind=1)(h4:¬ (tokS T e s).kind=4)(n0:isS T e s (⟨#[95]⟩:ByteArray)=false)(n1:isS T e s (⟨#[116,114,117,101]⟩:ByteArray)=false)(n2:isS T e s (⟨#[102,97,108,115,101]⟩:ByteArray)=false)(n3:isS T e s (⟨#[91]⟩:ByteArray)=false)(n4:isS T e s (⟨#[45]⟩:ByteArray)=false)(h:isS T e s (⟨#[40]⟩:ByteArray)=true)(h2:isS T e (advS s) (⟨#[41]⟩:ByteArray)=true):PA T e d s (pN 6 0 nS [],advS (advS s)):=by
 have ht:=xp T e s;have hg:=xJ (tokS T e s);have hlt:=(xA h (xa (l:=[40]) (by simp))).2
 have his:=xD T e (advS s) (⟨#[41]⟩:ByteArray);have hlt2:=(xA h2 (xa (l:=[41]) (by simp))).2
 rw [h2] at his
 unfold PA at *
 simp only [yn] at *
 generalize tokS T e s=t at *
 have f3:=kF h3;have f1:=kF h1;have f4:=kF h4;rw [MTok.enc_eq,xh] at ht
 rw [MTok.enc_eq] at hg
 refine FCon.pLeaf ?_;show FCon _ _ _ (fun x o=>_/\o=[.opt (rdD T e (advS (advS s))),.un])
 clear h2;unfold advS at *
 rw [xh] at his
 rw [xb,xb];refine FI PM Tryz.func264 Tryz.ntmps264 [(7,9,[8],[(8,0)],(lin [8] [0,1,2,3,4,5,6,7,8]))] rfl rfl ?_
 (have hWf:=w10 @xe @xd @f3 @f1 @f4 @n0 @n1 @n2 @n3 (ai @n4<|@h);repeat' (first|refine zS ?_|refine zI ?_ ?_|refine zK ht ?_|refine zK hg ?_|refine zK his ?_|exact zF0|refine zD fun hb=>?_|exact zC|refine zT ?_|fail))
 all_goals rfl
theorem patom_par(hT:T.length<=10000)(d:Int)(hd:0<=d/\d<=1000)(s:PS)(h3:¬ (tokS T e s).kind=3)(h1:¬ (tokS T e s).kind=1)(h4:¬ (tokS T e s).kind=4)(n0:isS T e s (⟨#[95]⟩:ByteArray)=false)(n1:isS T e s (⟨#[116,114,117,101]⟩:ByteArray)=false)(n2:isS T e s (⟨#[102,97,108,115,101]⟩:ByteArray)=false)(n3:isS T e s (⟨#[91]⟩:ByteArray)=false)(n4:isS T e s (⟨#[45]⟩:ByteArray)=false)(h:isS T e s (⟨#[40]⟩:ByteArray)=true)(h2:isS T e (advS s) (⟨#[41]⟩:ByteArray)=false)(hR:CPat T e R (d+1))(w1:WF T (advS s))(h5:isS T e (R (advS s)).2 (⟨#[44]⟩:ByteArray)=false):PA T e d s ((R (advS s)).1,xf T e (R (advS s)).2 (⟨#[41]⟩:ByteArray)):=by
 have ht:=xp T e s;have hg:=xJ (tokS T e s);have hlt:=(xA h (xa (l:=[40]) (by simp))).2
 have his:=xD T e (advS s) (⟨#[41]⟩:ByteArray);rw [h2] at his
 have hr:=hR (advS s) w1;have hic:=xD T e (R (advS s)).2 (⟨#[44]⟩:ByteArray);rw [h5] at hic
 have htk:=xI T e (R (advS s)).2 (by omega) (⟨#[41]⟩:ByteArray) (xa (l:=[41]) (by simp))
 clear h2 h5;unfold PA at *
 simp only [yn] at *
 generalize tokS T e s=t at *
 have f3:=kF h3;have f1:=kF h1;have f4:=kF h4;rw [MTok.enc_eq,xh] at ht
 rw [MTok.enc_eq] at hg
 rcases hq:R (advS s) with ⟨⟨a,l⟩,s1⟩
 rw [hq] at hr hic htk
 simp only at hr hic htk ⊢
 generalize xf T e s1 (⟨#[41]⟩:ByteArray)=s2 at *
 unfold advS at *
 rw [wZ,xb,xb] at hr
 rw [xb,xb] at htk
 rw [xh] at his hic
 rw [wZ,xb,xb];refine FI PM Tryz.func264 Tryz.ntmps264 [(7,9,[8],[(8,0)],(lin [8] [0,1,2,3,4,5,6,7,8]))] rfl rfl ?_
 (have hWf:=w10 @xe @xd @f3 @f1 @f4 @n0 @n1 @n2 @n3 (ai @n4<|@h);repeat' (first|refine zS ?_|refine zI ?_ ?_|refine zK ht ?_|refine zK hg ?_|refine zK his ?_|refine zH hr ?_|refine zK hic ?_|refine zH htk ?_|exact zF0|refine zD fun hb=>?_|exact zC|refine zT ?_|fail))
 all_goals rfl
theorem xb2(hT:T.length<=10000)(d:Int)(hd:0<=d/\d<=1000)(s:PS)(h3:¬ (tokS T e s).kind=3)(h1:¬ (tokS T e s).kind=1)(h4:¬ (tokS T e s).kind=4)(n0:isS T e s (⟨#[95]⟩:ByteArray)=false)(n1:isS T e s (⟨#[116,114,117,101]⟩:ByteArray)=false)(n2:isS T e s (⟨#[102,97,108,115,101]⟩:ByteArray)=false)(n3:isS T e s (⟨#[91]⟩:ByteArray)=false)(n4:isS T e s (⟨#[45]⟩:ByteArray)=false)(h:isS T e s (⟨#[40]⟩:ByteArray)=true)(h2:isS T e (advS s) (⟨#[41]⟩:ByteArray)=false)(hR:CPat T e R (d+1))(w1:WF T (advS s))(h5:isS T e (R (advS s)).2 (⟨#[44]⟩:ByteArray)=true)(w2:WF T (advS (R (advS s)).2)):PA T e d s (pN 5 0 nS [(R (advS s)).1,(R (advS (R (advS s)).2)).1],xf T e (R (advS (R (advS s)).2)).2 (⟨#[41]⟩:ByteArray)):=by
 have ht:=xp T e s;have hg:=xJ (tokS T e s);have hlt:=(xA h (xa (l:=[40]) (by simp))).2
 have his:=xD T e (advS s) (⟨#[41]⟩:ByteArray);rw [h2] at his
 have hr:=hR (advS s) w1;have hic:=xD T e (R (advS s)).2 (⟨#[44]⟩:ByteArray);have hlt2:=(xA h5 (xa (l:=[44]) (by simp))).2
 rw [h5] at hic
 have hr2:=hR (advS (R (advS s)).2) w2;have htk:=xI T e (R (advS (R (advS s)).2)).2 (by omega) (⟨#[41]⟩:ByteArray) (xa (l:=[41]) (by simp))
 clear h2 h5 w1 w2;unfold PA at *
 simp only [yn] at *
 generalize tokS T e s=t at *
 have f3:=kF h3;have f1:=kF h1;have f4:=kF h4;rw [MTok.enc_eq,xh] at ht
 rw [MTok.enc_eq] at hg
 rcases hq:R (advS s) with ⟨⟨a,l⟩,s1⟩
 rw [hq] at hr hic htk hr2 hlt2
 simp only at hr hic htk hr2 hlt2 ⊢
 rcases hq2:R (advS s1) with ⟨⟨b,r⟩,s2⟩
 rw [hq2] at htk hr2
 simp only at htk hr2 ⊢
 generalize xf T e s2 (⟨#[41]⟩:ByteArray)=s3 at *
 clear hq hq2;unfold advS at *
 rw [wZ,xb,xb] at hr hr2
 rw [xb,xb] at htk
 rw [xh] at his hic
 rw [pV_pN,List.map_cons,List.map_cons,List.map_nil,wZ,wZ,xb,xb];refine FI PM Tryz.func264 Tryz.ntmps264 [(7,9,[8],[(8,0)],(lin [8] [0,1,2,3,4,5,6,7,8]))] rfl rfl ?_
 (have hWf:=w10 @xe @xd @f3 @f1 @f4 @n0 @n1 @n2 @n3 (ai @n4<|@h);repeat' (first|refine zS ?_|refine zI ?_ ?_|refine zK ht ?_|refine zK hg ?_|refine zK his ?_|refine zH hr ?_|refine zK hic ?_|refine zH hr2 ?_|refine zH htk ?_|exact zF0|refine zD fun hb=>?_|exact zC|refine zT ?_|fail))
 all_goals rfl
theorem patom_no(hT:T.length<=10000)(d:Int)(hd:0<=d/\d<=1000)(s:PS)(h3:¬ (tokS T e s).kind=3)(h1:¬ (tokS T e s).kind=1)(h4:¬ (tokS T e s).kind=4)(n0:isS T e s (⟨#[95]⟩:ByteArray)=false)(n1:isS T e s (⟨#[116,114,117,101]⟩:ByteArray)=false)(n2:isS T e s (⟨#[102,97,108,115,101]⟩:ByteArray)=false)(n3:isS T e s (⟨#[91]⟩:ByteArray)=false)(n4:isS T e s (⟨#[45]⟩:ByteArray)=false)(n5:isS T e s (⟨#[40]⟩:ByteArray)=false):PA T e d s (P0,xG T e s 7):=by
 have ht:=xp T e s;have hg:=xJ (tokS T e s);have hf:=y3 T e s 7;unfold PA at *
 simp only [yn] at *
 generalize tokS T e s=t at *
 have f3:=kF h3;have f1:=kF h1;have f4:=kF h4;rw [MTok.enc_eq,xh] at ht
 rw [MTok.enc_eq] at hg
 refine FCon.pLeaf (k:=0) (n:=0) (s:=nS) ?_;rw [xb,xb] at hf
 rw [xb,xb];refine FI PM Tryz.func264 Tryz.ntmps264 [(7,9,[8],[(8,0)],(lin [8] [0,1,2,3,4,5,6,7,8]))] rfl rfl ?_
 (have hWf:=w10 @xe @xd @f3 @f1 @f4 @n0 @n1 @n2 @n3 (ai @n4<|@n5);repeat' (first|refine zS ?_|refine zI ?_ ?_|refine zK ht ?_|refine zK hg ?_|refine zH hf ?_|exact zF0|refine zD fun hb=>?_|exact zC|refine zT ?_|fail))
 all_goals rfl
theorem bF{b:Bool}(h:¬ b=true):b=false:=by simpa using h
theorem xbt(hT:T.length<=10000)(hTn:∀ t∈T,-4611686018427387904<=t.n/\t.n<=4611686018427387904)(d:Int)(hd:0<=d/\d<=999)(hR:CPat T e R (d+1))(hB:∀ s,PB T s (R s))(n:Nat):∀ s,T.length - s.i<n->WF T s->PA T e d s (z7 T e R n s):=by
 have hd':0<=d/\d<=1000:=⟨hd.1,by omega⟩
 induction n with
 | zero=>intro s h;omega
 | succ n ih=>
  intro s hn hs;rw [z7]
  by_cases h3:(tokS T e s).kind=3
  .rw [if_pos h3];exact xb1 hT d s hs h3
  rw [if_neg h3]
  by_cases h1:(tokS T e s).kind=1
  .rw [if_pos h1];exact patom_int hT d s h1
  rw [if_neg h1]
  by_cases h4:(tokS T e s).kind=4
  .rw [if_pos h4]
   have hlt:=(xS (T:=T) (e:=e) (s:=s) (by rw [h4];decide)).2
   by_cases hb:uU (tokS T e (advS s))=true
   .rw [if_pos hb]
    have:=ih (advS s) (by show T.length - (s.i+1)<n;omega) ((Mo.adv hlt).wf hs)
    rcases hq:z7 T e R n (advS s) with ⟨a,s1⟩
    rw [hq] at this
    exact xb0 hT d s h4 hb this
   .rw [if_neg hb];exact xbZ hT d s h4 (bF hb)
  rw [if_neg h4]
  by_cases n0:isS T e s (⟨#[95]⟩:ByteArray)=true
  .rw [if_pos n0];exact xb5 hT d hd' s h3 h1 h4 n0
  rw [if_neg n0]
  by_cases n1:isS T e s (⟨#[116,114,117,101]⟩:ByteArray)=true
  .rw [if_pos n1];exact xb3 hT d hd' s h3 h1 h4 (bF n0) n1
  rw [if_neg n1]
  by_cases n2:isS T e s (⟨#[102,97,108,115,101]⟩:ByteArray)=true
  .rw [if_pos n2];exact xa7 hT d hd' s h3 h1 h4 (bF n0) (bF n1) n2
  rw [if_neg n2]
  by_cases n3:isS T e s (⟨#[91]⟩:ByteArray)=true
  .rw [if_pos n3];exact patom_nil hT d hd' s h3 h1 h4 (bF n0) (bF n1) (bF n2) n3
  rw [if_neg n3]
  by_cases n4:isS T e s (⟨#[45]⟩:ByteArray)=true
  .rw [if_pos n4];exact xa8 hT d hd' hTn s h3 h1 h4 (bF n0) (bF n1) (bF n2) (bF n3) n4
  rw [if_neg n4]
  by_cases n5:isS T e s (⟨#[40]⟩:ByteArray)=true
  .rw [if_pos n5]
   have m1:=Mo.advS n5 (xa (l:=[40]) (by simp))
   by_cases h2:isS T e (advS s) (⟨#[41]⟩:ByteArray)=true
   .rw [if_pos h2];exact xb4 hT d hd' s h3 h1 h4 (bF n0) (bF n1) (bF n2) (bF n3) (bF n4) n5 h2
   rw [if_neg h2];show PA T e d s (if isS T e (R (advS s)).2 (⟨#[44]⟩:ByteArray)=true then (pN 5 0 nS [(R (advS s)).1,(R (advS (R (advS s)).2)).1],xf T e (R (advS (R (advS s)).2)).2 (⟨#[41]⟩:ByteArray)) else ((R (advS s)).1,xf T e (R (advS s)).2 (⟨#[41]⟩:ByteArray)))
   by_cases h5:isS T e (R (advS s)).2 (⟨#[44]⟩:ByteArray)=true
   .rw [if_pos h5];exact xb2 hT d hd' s h3 h1 h4 (bF n0) (bF n1) (bF n2) (bF n3) (bF n4) n5 (bF h2) hR (m1.wf hs) h5 ((Mo.advS h5 (xa (l:=[44]) (by simp))).wf ((hB (advS s)).1.wf (m1.wf hs)))
   .rw [if_neg h5];exact patom_par hT d hd' s h3 h1 h4 (bF n0) (bF n1) (bF n2) (bF n3) (bF n4) n5 (bF h2) hR (m1.wf hs) (bF h5)
  .rw [if_neg n5];exact patom_no hT d hd' s h3 h1 h4 (bF n0) (bF n1) (bF n2) (bF n3) (bF n4) (bF n5)
theorem Q1(hT:T.length<=10000)(hTn:∀ t∈T,-4611686018427387904<=t.n/\t.n<=4611686018427387904)(d:Int)(hd0:0<=d)(hd1:d<=100)(hR:CPat T e R (d+1))(hB:∀ s,PB T s (R s)):CPat T e (uE T e R) d:=by
 intro s hs;have hdd:decide ((100:Int)<d)=false:=decide_eq_false (by omega)
 unfold uE
 by_cases z0:s.code=0
 .have f0:=knT z0
  rw [if_pos z0];have hp:=xbt hT hTn d ⟨hd0,by omega⟩ hR hB (T.length+1) s (by omega) hs
  have bp:=patom_b hB (e:=e) (T.length+1) s;unfold PA at hp
  rcases hq:z7 T e R (T.length+1) s with ⟨⟨a,l⟩,s1⟩
  rw [hq] at hp bp
  simp only at hp bp ⊢
  have his:=xD T e s1 (⟨#[58,58]⟩:ByteArray);cases hst:isS T e s1 (⟨#[58,58]⟩:ByteArray) with
  | true=>
   have hlt:=xA hst (xa (l:=[58,58]) (by simp))
   rw [hst] at his
   rw [if_pos rfl];have hr:=hR (advS s1) ((Mo.advS hst (xa (l:=[58,58]) (by simp))).wf (bp.1.wf hs))
   rcases hqr:R (advS s1) with ⟨⟨b,r⟩,s2⟩
   rw [hqr] at hr
   simp only at hr ⊢
   unfold advS at hr
   rw [wZ,xb,xb] at hr hp
   rw [xh] at his
   rw [pV_pN,List.map_cons,List.map_nil,pV_pN,List.map_cons,List.map_cons,List.map_nil,wZ,wZ,xb,xb];refine FI PM Tryz.func245 Tryz.ntmps245 [] rfl rfl ?_
   (have hWf:=w4 @xe @xd @f0 @hdd;repeat' (first|refine zS ?_|refine zI ?_ ?_|refine zH hp ?_|refine zK his ?_|refine zH hr ?_|exact zF0|refine zD fun hb=>?_|exact zC|refine zT ?_|fail))
   all_goals rfl
  | false=>
   rw [hst] at his
   rw [if_neg (by decide)]
   rw [wZ,xb,xb] at hp
   rw [xh] at his
   rw [wZ,xb,xb];refine FI PM Tryz.func245 Tryz.ntmps245 [] rfl rfl ?_
   (have hWf:=w4 @xe @xd @f0 @hdd;repeat' (first|refine zS ?_|refine zI ?_ ?_|refine zH hp ?_|refine zK his ?_|exact zF0|refine zD fun hb=>?_|exact zC|refine zT ?_|fail))
   all_goals rfl
 .have f0:=knF z0
  rw [if_neg z0];refine FCon.pLeaf (k:=0) (n:=0) (s:=nS) ?_;rw [xb];refine FI PM Tryz.func245 Tryz.ntmps245 [] rfl rfl ?_
  (have hWf:=w1 @f0;repeat' (first|refine zS ?_|refine zI ?_ ?_|exact zF0|refine zD fun hb=>?_|exact zC|refine zT ?_|fail))
  all_goals rfl
theorem xa0(hT:T.length<=10000):CPat T e (patF T e 0) 101:=by
 intro s hs;have hsl:s.seen.length<=1000000:=by have:=hs.1;have:=hs.2;omega
 have ht:=xp T e s;have hse:=VY T e s (tokS T e s) hsl;have hf:=y3 T e s 8;have hpb:=Q0 T e s;have hd:=ZL T e s (uU (tokS T e s));unfold patF;generalize tokS T e s=t at *
 rw [MTok.enc_eq,xh] at ht hse
 rw [xh] at hpb
 by_cases z0:s.code=0
 .have f0:=knT z0
  rw [if_pos z0];cases hq:Zl s t with
  | true=>
   rw [hq] at hse
   rw [if_pos rfl];refine FCon.pLeaf (k:=0) (n:=0) (s:=nS) ?_;rw [xb,xb] at hf
   rw [xb,xb];refine FI PM Tryz.func245 Tryz.ntmps245 [] rfl rfl ?_
   (have hWf:=w3 @xe @xd @f0;repeat' (first|refine zS ?_|refine zI ?_ ?_|refine zK ht ?_|refine zK hse ?_|refine zH hf ?_|exact zF0|refine zD fun hb=>?_|exact zC|refine zT ?_|fail))
   all_goals rfl
  | false=>
   rw [hq] at hse
   rw [if_neg (by decide)]
   refine FCon.pLeaf (k:=0) (n:=0) (s:=nS) ?_;show FCon _ _ _ (fun x o=>_/\o=[.opt (rdD T e (wl T e s (uU t))),.un])
   generalize wl T e s (uU t)=s2 at *
   rw [xb,xb] at hd
   rw [xb,xb];refine FI PM Tryz.func245 Tryz.ntmps245 [] rfl rfl ?_
   (have hWf:=w3 @xe @xd @f0;repeat' (first|refine zS ?_|refine zI ?_ ?_|refine zK ht ?_|refine zK hse ?_|refine zK hpb ?_|refine zH hd ?_|exact zF0|refine zD fun hb=>?_|exact zC|refine zT ?_|fail))
   all_goals rfl
 .have f0:=knF z0
  rw [if_neg z0];refine FCon.pLeaf (k:=0) (n:=0) (s:=nS) ?_;rw [xb];refine FI PM Tryz.func245 Tryz.ntmps245 [] rfl rfl ?_
  (have hWf:=w1 @f0;repeat' (first|refine zS ?_|refine zI ?_ ?_|exact zF0|refine zD fun hb=>?_|exact zC|refine zT ?_|fail))
  all_goals rfl
theorem c_l03Pat(hT:T.length<=10000)(hTn:∀ t∈T,-4611686018427387904<=t.n/\t.n<=4611686018427387904):∀ k:Nat,k<=101->CPat T e (patF T e k) (101 - k):=fun k=>by
 induction k with
 | zero=>intro _;exact xa0 hT
 | succ k ih=>
  intro hk;have:=Q1 (R:=patF T e k) hT hTn (101 - ((k+1:Nat):Int)) (by omega) (by omega) (by rw [show (101:Int) - ((k+1:Nat):Int)+1=101 - (k:Int) by omega];exact ih (by omega)) (pat_b k)
  exact this
end
end
section
open Go.RowKit Arb
def wH(rows:List (List D))(l:List PT):List (List D):=rows++[.s (.int .i64 0),.s (.int .i64 0),.s (.string ⟨#[]⟩),.nil]::(layL PI.node (rows.length+1) l).map DPNode.own
theorem Z9(rows:List (List D))(l:List PT):(wH rows l).length=rows.length+1+sizeL l:=by
 unfold wH;rw [List.length_append,List.length_cons,List.length_map,layL_len];omega
theorem playD_nil(rows:List (List D)):wH rows []=rows++[[.s (.int .i64 0),.s (.int .i64 0),.s (.string ⟨#[]⟩),.nil]]:=rfl
theorem xb6(rows:List (List D))(l:List PT)(k:Nat)(h:k<l.length):wH rows (l.take (k+1))=wH rows (l.take k)++(Arb.lay PI.node (wH rows (l.take k)).length l[k]).map DPNode.own:=by
 rw [Z9];unfold wH;rw [List.take_succ_eq_append_getElem h,layL_app,layL_cons,layL_nil,List.append_nil,List.map_append,List.append_assoc,List.cons_append]
theorem playD_get(rows:List (List D))(l:List PT):(wH rows l).getD rows.length []=[.s (.int .i64 0),.s (.int .i64 0),.s (.string ⟨#[]⟩),.nil]:=by
 unfold wH;rw [List.getD_eq_getElem?_getD,List.getElem?_append_right (Nat.le_refl _),Nat.sub_self];rfl
theorem playD_set(rows:List (List D))(a:PI)(l:List PT):(wH rows l).set rows.length [.s (.int .i64 a.kind),.s (.int .i64 a.n),.s (.string a.s),.osl 3 1 ((idxs (rows.length+1) l).map iE)]=rows++(Arb.lay PI.node rows.length (.mk a l)).map DPNode.own:=by
 unfold wH;rw [List.set_append_right _ _ (Nat.le_refl _),Nat.sub_self,List.set_cons_zero,lay_mk,List.map_cons];rfl
theorem xbb(l:List PT)(k:Nat):sizeL (l.take k)<=sizeL l:=by
 have e:=congrArg sizeL (List.take_append_drop k l);rw [sizeL_app] at e
 omega
theorem xaF{l:List PT}{k:Nat}(h:k<l.length):sizeL (l.take k)+l[k].size<=sizeL l:=by
 have e:=congrArg sizeL (List.take_append_drop k l);rw [sizeL_app,List.drop_eq_getElem_cons h,sizeL_cons] at e
 omega
theorem xbP(b:Nat)(l:List PT)(k:Nat)(h:k<l.length):idxs b (l.take (k+1))=idxs b (l.take k)++[((b+sizeL (l.take k):Nat):Int)]:=by
 rw [List.take_succ_eq_append_getElem h,idxs_app];rfl
theorem c_l03PLay:∀ t:PT,∀ rows:List (List D),rows.length+t.size<=1000000->FT 246 [.osl 126 4 rows,.ag (pF t)] (fun r o=>r=.osl 126 4 (rows++(Arb.lay PI.node rows.length t).map DPNode.own)/\o=[.un,.un]):=fun t=>by
 induction t using Arb.ind with
 | h a l ih=>
  intro rows hs;rw [size_mk] at hs
  have hll:=sizeL_len l;rw [pF_mk];refine FI PM Tryz.func246 Tryz.ntmps246 [] rfl rfl ?_
  (have hWf:=f0;repeat' (first|refine zS ?_|refine zI ?_ ?_|exact zF0|refine zD fun hb=>?_|exact zC|refine zT ?_|fail))
  refine Zx (zJ 6 3 777 (row:=[.s (.int .i64 a.kind),.s (.int .i64 a.n),.s (.string a.s),.nil]) 3 1 (by simp only [go_sem,simprocAttr]) rfl (by decide) rfl (xE ?_))
  simp only [go_sem,simprocAttr];refine xn (fun n σ=>∃ (k nm:Nat),(nm=13\/nm=1036)/\k<=l.length/\n=l.length - k/\σ.t 0=.bs nm 4 (wH rows (l.take k)).length/\σ.t 3=.bx 3 0/\σ.t 5=.s (.int .i64 rows.length)/\σ.t 6=.bx 6 0/\σ.t 19=.s (.int .i64 l.length)/\σ.t 20=.s (.int .i64 k) /\
   σ.b nm=some (.arr 126 4 (wH rows (l.take k)))/\σ.b 3=some (.box [.s (.int .i64 a.kind),.s (.int .i64 a.n),.s (.string a.s),.nil,.sl 5 (l.map pF)])/\σ.b 6=some (.box [.s (.int .i64 a.kind),.s (.int .i64 a.n),.s (.string a.s),.bs 777 1 (idxs (rows.length+1) (l.take k)).length])/\σ.b 777=some (.arr 3 1 ((idxs (rows.length+1) (l.take k)).map iE))/\σ.b 900000=none) l.length ⟨0,13,.inl rfl,by omega,by omega,?_⟩ ?_
  .simp only [go_sem,simprocAttr,Int.natCast_zero,List.take_zero,playD_nil,List.length_append,idxs,List.map_nil]
  .rintro n σ ⟨k,nm,hnm,hk,rfl,h0,h3,h5,h6,h19,h20,b0,b3,b6,b7,b9⟩ K' hK
   have hcl:=Z9 rows (l.take k);have hil:=idxs_len (rows.length+1) (l.take k);have hts:=xbb l k;have hle:(l.take k).length<=k:=by rw [List.length_take];omega
   by_cases hlt:k<l.length
   .have hx:=xi pF l k hlt
    obtain ⟨b,q,hbr⟩:∃ b q,l[k]=.mk b q:=⟨_,_,Arb.eta _⟩;have he:pF l[k]=[.s (.int .i64 b.kind),.s (.int .i64 b.n),.s (.string b.s),.nil,.sl 5 (q.map pF)]:=by rw [hbr,pF_mk]
    have hz:=xaF hlt;have hi:=ih l[k] (List.getElem_mem hlt) (wH rows (l.take k)) (by omega)
    have hcs:=xb6 rows l k hlt;have his:=xbP (rows.length+1) l k hlt;rw [<- hcs,he] at hi
    rcases hnm with rfl|rfl
    ·(have hWf:=w10 @h0 @h3 @h5 @h6 @h19 @h20 @b0 @b3 @b6 (ai @b7<|ai @b9<|ai @hx<|@he);repeat' (first|refine zS ?_|refine zI ?_ ?_|refine zH hi ?_|exact zF0|refine zD fun hb=>?_|exact zC|refine zT ?_|fail))
     refine hK (l.length - (k+1)) _ (by omega) ⟨k+1,1036,.inr rfl,by omega,rfl,?_⟩
     simp only [go_sem,simprocAttr,h0,h3,h5,h6,h19,h20,b0,b3,b6,b7,b9,Int.natCast_succ,his,List.map_append,List.length_append,hcl]
     all_goals rfl
    ·(have hWf:=w10 @h0 @h3 @h5 @h6 @h19 @h20 @b0 @b3 @b6 (ai @b7<|ai @b9<|ai @hx<|@he);repeat' (first|refine zS ?_|refine zI ?_ ?_|refine zH hi ?_|exact zF0|refine zD fun hb=>?_|exact zC|refine zT ?_|fail))
     refine hK (l.length - (k+1)) _ (by omega) ⟨k+1,1036,.inr rfl,by omega,rfl,?_⟩
     simp only [go_sem,simprocAttr,h0,h3,h5,h6,h19,h20,b0,b3,b6,b7,b9,Int.natCast_succ,his,List.map_append,List.length_append,hcl]
     all_goals rfl
   .obtain rfl:k=l.length:=by omega
    rw [List.take_length] at h0 b0 b6 b7 hcl hil
    have hg:=playD_get rows l;have hst:=playD_set rows a l;have hln:(wH rows l).length=rows.length+(Arb.lay PI.node rows.length (.mk a l)).length:=by rw [Z9,Arb.lay_len,size_mk];omega
    have htk:List.take (wH rows l).length (rows++(Arb.lay PI.node rows.length (.mk a l)).map DPNode.own)=rows++(Arb.lay PI.node rows.length (.mk a l)).map DPNode.own:=List.take_of_length_le (by rw [hln,List.length_append,List.length_map];exact Nat.le_refl _)
    rcases hnm with rfl|rfl
    ·(have hWf:=w10 @h0 @h3 @h5 @h6 @h19 @h20 @b0 @b3 @b6 (ai @b7<|ai @b9<|ai @hg<|ai @hst<|@htk);repeat' (first|refine zS ?_|refine zI ?_ ?_|exact zF0|refine zD fun hb=>?_|exact zC|refine zT ?_|fail))
     all_goals exact Nat.le_of_eq hln
    ·(have hWf:=w10 @h0 @h3 @h5 @h6 @h19 @h20 @b0 @b3 @b6 (ai @b7<|ai @b9<|ai @hg<|ai @hst<|@htk);repeat' (first|refine zS ?_|refine zI ?_ ?_|exact zF0|refine zD fun hb=>?_|exact zC|refine zT ?_|fail))
     all_goals exact Nat.le_of_eq hln
theorem c_playNil(t:PT)(hs:t.size<=1000000):FT 246 [.nil,.ag (pF t)] (fun r o=>r=.osl 126 4 ((layP t).nodes.map DPNode.own)/\o=[.un,.un]):=by
 have h:=(c_l03PLay t [] (by simpa using hs)).argNil
 simp only [List.length_nil,List.nil_append] at h
 exact h
mutual
def eV:ET->List D
 | .mk a l=>[.s (.int .i64 a.kind),.s (.int .i64 a.at_),.s (.int .i64 a.n),.s (.string a.s),.nil,.osl 89 1 (a.pats.map MPat.own),.osl 58 7 (eVL l)]
def eVL:List ET->List (List D)
 | []=>[]
 | t::l=>eV t::eVL l
end
theorem eVL_map(l:List ET):eVL l=l.map eV:=by
 induction l with
 | nil=>rfl
 | cons t l ih=>rw [eVL,ih];rfl
theorem xr(a:EI)(l:List ET):eV (.mk a l)=[.s (.int .i64 a.kind),.s (.int .i64 a.at_),.s (.int .i64 a.n),.s (.string a.s),.nil,.osl 89 1 (a.pats.map MPat.own),.osl 58 7 (l.map eV)]:=by rw [eV,eVL_map]
theorem xP(k at_:Int)(s:ByteArray)(l:List ET):eV (eN k at_ s l)=[.s (.int .i64 k),.s (.int .i64 at_),.s (.int .i64 0),.s (.string s),.nil,.osl 89 1 [],.osl 58 7 (l.map eV)]:=xr _ _
theorem FCon.eLeaf{P:Program}{f:FuncId}{args o:List D}{k a n:Int}{s:ByteArray}(h:FCon P f args (fun r o'=>r=.ag [.s (.int .i64 k),.s (.int .i64 a),.s (.int .i64 n),.s (.string s),.nil,.nil,.nil]/\o'=o)):FCon P f args (fun r o'=>r=.ag (eV (.mk ⟨k,a,n,s,[]⟩ []))/\o'=o):=by
 rw [xr];refine h.agWo rfl fun j x y hx hy=>?_
 match j,hx,hy with
 | 0,hx,hy=>left;rw [<- Option.some.inj hx,<- Option.some.inj hy]
 | 1,hx,hy=>left;rw [<- Option.some.inj hx,<- Option.some.inj hy]
 | 2,hx,hy=>left;rw [<- Option.some.inj hx,<- Option.some.inj hy]
 | 3,hx,hy=>left;rw [<- Option.some.inj hx,<- Option.some.inj hy]
 | 4,hx,hy=>left;rw [<- Option.some.inj hx,<- Option.some.inj hy]
 | 5,hx,hy=>right;exact ⟨(Option.some.inj hx).symm,.inr ⟨_,1,(Option.some.inj hy).symm⟩⟩
 | 6,hx,hy=>right;exact ⟨(Option.some.inj hx).symm,.inr ⟨_,7,(Option.some.inj hy).symm⟩⟩
theorem FCon.eOne{P:Program}{f:FuncId}{args o:List D}{k a n:Int}{s:ByteArray}{l:List ET}(h:FCon P f args (fun r o'=>r=.ag [.s (.int .i64 k),.s (.int .i64 a),.s (.int .i64 n),.s (.string s),.nil,.nil,.osl 58 7 (l.map eV)]/\o'=o)):FCon P f args (fun r o'=>r=.ag (eV (.mk ⟨k,a,n,s,[]⟩ l))/\o'=o):=by
 rw [xr];refine h.agWo rfl fun j x y hx hy=>?_
 match j,hx,hy with
 | 0,hx,hy=>left;rw [<- Option.some.inj hx,<- Option.some.inj hy]
 | 1,hx,hy=>left;rw [<- Option.some.inj hx,<- Option.some.inj hy]
 | 2,hx,hy=>left;rw [<- Option.some.inj hx,<- Option.some.inj hy]
 | 3,hx,hy=>left;rw [<- Option.some.inj hx,<- Option.some.inj hy]
 | 4,hx,hy=>left;rw [<- Option.some.inj hx,<- Option.some.inj hy]
 | 5,hx,hy=>right;exact ⟨(Option.some.inj hx).symm,.inr ⟨_,1,(Option.some.inj hy).symm⟩⟩
 | 6,hx,hy=>left;rw [<- Option.some.inj hx,<- Option.some.inj hy]
theorem yb(k a:Int)(s:ByteArray)(l:List ET):FT 154 [.s (.int .i64 k),.s (.int .i64 a),.s (.string s),.osl 58 7 (l.map eV)] (fun r o=>r=.ag (eV (eN k a s l))/\o=[.un,.un,.un,.un]):=by
 refine FCon.eOne ?_;refine FI PM Tryz.func154 Tryz.ntmps154 [] rfl rfl ?_
 (have hWf:=f0;repeat' (first|refine zS ?_|refine zI ?_ ?_|exact zF0|refine zD fun hb=>?_|exact zC|refine zT ?_|fail))
theorem vh(k a:Int)(s:ByteArray):FT 154 [.s (.int .i64 k),.s (.int .i64 a),.s (.string s),.nil] (fun r o=>r=.ag (eV (eN k a s []))/\o=[.un,.un,.un,.un]):=by
 refine FCon.eLeaf ?_;refine FI PM Tryz.func154 Tryz.ntmps154 [] rfl rfl ?_
 (have hWf:=f0;repeat' (first|refine zS ?_|refine zI ?_ ?_|exact zF0|refine zD fun hb=>?_|exact zC|refine zT ?_|fail))
def wG(rows:List (List D))(l:List ET):List (List D):=rows++[.s (.int .i64 0),.s (.int .i64 0),.s (.int .i64 0),.s (.string ⟨#[]⟩),.nil,.nil]::(layL EI.node (rows.length+1) l).map MNode.own
theorem ZQ(rows:List (List D))(l:List ET):(wG rows l).length=rows.length+1+sizeL l:=by
 unfold wG;rw [List.length_append,List.length_cons,List.length_map,layL_len];omega
theorem elayD_nil(rows:List (List D)):wG rows []=rows++[[.s (.int .i64 0),.s (.int .i64 0),.s (.int .i64 0),.s (.string ⟨#[]⟩),.nil,.nil]]:=rfl
theorem xbC(rows:List (List D))(l:List ET)(k:Nat)(h:k<l.length):wG rows (l.take (k+1))=wG rows (l.take k)++(Arb.lay EI.node (wG rows (l.take k)).length l[k]).map MNode.own:=by
 rw [ZQ];unfold wG;rw [List.take_succ_eq_append_getElem h,layL_app,layL_cons,layL_nil,List.append_nil,List.map_append,List.append_assoc,List.cons_append]
theorem elayD_get(rows:List (List D))(l:List ET):(wG rows l).getD rows.length []=[.s (.int .i64 0),.s (.int .i64 0),.s (.int .i64 0),.s (.string ⟨#[]⟩),.nil,.nil]:=by
 unfold wG;rw [List.getD_eq_getElem?_getD,List.getElem?_append_right (Nat.le_refl _),Nat.sub_self];rfl
theorem elayD_set(rows:List (List D))(a:EI)(l:List ET):(wG rows l).set rows.length [.s (.int .i64 a.kind),.s (.int .i64 a.at_),.s (.int .i64 a.n),.s (.string a.s),.osl 3 1 ((idxs (rows.length+1) l).map iE),.osl 89 1 (a.pats.map MPat.own)]=rows++(Arb.lay EI.node rows.length (.mk a l)).map MNode.own:=by
 unfold wG;rw [List.set_append_right _ _ (Nat.le_refl _),Nat.sub_self,List.set_cons_zero,lay_mk,List.map_cons];rfl
theorem xba(l:List ET)(k:Nat):sizeL (l.take k)<=sizeL l:=by
 have e:=congrArg sizeL (List.take_append_drop k l);rw [sizeL_app] at e
 omega
theorem xaE{l:List ET}{k:Nat}(h:k<l.length):sizeL (l.take k)+l[k].size<=sizeL l:=by
 have e:=congrArg sizeL (List.take_append_drop k l);rw [sizeL_app,List.drop_eq_getElem_cons h,sizeL_cons] at e
 omega
theorem xbO(b:Nat)(l:List ET)(k:Nat)(h:k<l.length):idxs b (l.take (k+1))=idxs b (l.take k)++[((b+sizeL (l.take k):Nat):Int)]:=by
 rw [List.take_succ_eq_append_getElem h,idxs_app];rfl
def KidsO(l:List ET)(k:Nat)(o:Ob):Prop:=∃ rows:List (List D),rows.length=l.length/\(∀ i,k<=i->rows[i]?=(l.map eV)[i]?)/\(o=.arr 58 7 rows\/∃ (i:Nat) (rr:List D),i<k/\o=.rw 58 7 rows i rr)
theorem AC_drop{M:Md}{N:Nat}{pl:List (Nat×Plan)}{K:Exit->St->Prop}{σ:St}{c:Code}(id:Nat)(h:∀ τ:St,τ.t=σ.t->(∀ i,i≠id->τ.b i=σ.b i)->τ.b id=none->AC M N pl c K τ):AC M N pl c K σ:=by
 refine vT (σ':=⟨σ.t,fun i=>if i=id then none else σ.b i⟩) (fun x g a w _ _ hr=>⟨g,{ hr with tm:=hr.tm,ob:=fun i o ho=>?_,par:=fun i o ho hp=>?_ }⟩) (h _ rfl (fun i hi=>if_neg hi) (if_pos rfl))
 .have ho:(if i=id then none else σ.b i)=some o:=ho
  split at ho
  .cases ho
  .exact hr.ob i o ho
 .have ho:(if i=id then none else σ.b i)=some o:=ho
  split at ho
  .cases ho
  .exact hr.par i o ho hp
theorem AC_kids{M:Md}{N:Nat}{pl:List (Nat×Plan)}{K:Exit->St->Prop}{σ:St}{c:Code}{l:List ET}{k id:Nat}{o:Ob}(hb:σ.b id=some o)(hk:KidsO l k o)
  (h:∀ (τ:St) (rs:List (List D)),τ.t=σ.t->(∀ i,i≠id->τ.b i=σ.b i)->rs.length=l.length->(∀ i,k<=i->rs[i]?=(l.map eV)[i]?)->τ.b id=some (.arr 58 7 rs)->AC M N pl c K τ):AC M N pl c K σ:=by
 obtain ⟨rs,h1,h2,rfl|⟨i,rr,hi,rfl⟩⟩:=hk
 .exact h σ rs rfl (fun _ _=>rfl) h1 h2 hb
 .refine VM id hb fun us=>?_
  refine h _ (rs.set i (opqR us rr)) rfl (fun j hj=>by rw [setB_b,if_neg hj]) (by rw [List.length_set];exact h1) (fun j hj=>?_) (by rw [setB_b,if_pos rfl])
  rw [List.getElem?_set,if_neg (by omega)]
  exact h2 j hj
theorem c_l03Lay:∀ t:ET,∀ rows:List (List D),rows.length+t.size<=1000000->FT 24 [.osl 55 6 rows,.ag (eV t)] (fun r o=>r=.osl 55 6 (rows++(Arb.lay EI.node rows.length t).map MNode.own)/\o=[.un,.ag [.un,.un,.un,.un,.un,.un,.un]]):=fun t=>by
 induction t using Arb.ind with
 | h a l ih=>
  intro rows hs;rw [size_mk] at hs
  have hll:=sizeL_len l;rw [xr];refine FI PM Tryz.func24 Tryz.ntmps24 [] rfl rfl ?_
  (have hWf:=f0;repeat' (first|refine zS ?_|refine zI ?_ ?_|exact zF0|refine zD fun hb=>?_|exact zC|refine zT ?_|fail))
  refine Zx (zJ 6 4 777 (row:=[.s (.int .i64 a.kind),.s (.int .i64 a.at_),.s (.int .i64 a.n),.s (.string a.s),.nil,.bs 900105 1 a.pats.length]) 3 1 (by simp only [go_sem,simprocAttr]) rfl (by decide) rfl (xE ?_))
  simp only [go_sem,simprocAttr];refine xn (fun n σ=>∃ (k nm:Nat),(nm=13\/nm=1036)/\k<=l.length/\n=l.length - k/\σ.t 0=.bs nm 6 (wG rows (l.take k)).length/\σ.t 3=.bx 3 0/\σ.t 5=.s (.int .i64 rows.length)/\σ.t 6=.bx 6 0/\σ.t 19=.s (.int .i64 l.length)/\σ.t 20=.s (.int .i64 k) /\
   σ.b nm=some (.arr 55 6 (wG rows (l.take k)))/\σ.b 3=some (.box [.s (.int .i64 a.kind),.s (.int .i64 a.at_),.s (.int .i64 a.n),.s (.string a.s),.nil,.bs 900105 1 a.pats.length,.bs 900106 7 l.length])/\σ.b 6=some (.box [.s (.int .i64 a.kind),.s (.int .i64 a.at_),.s (.int .i64 a.n),.s (.string a.s),.bs 777 1 (idxs (rows.length+1) (l.take k)).length,.bs 900105 1 a.pats.length])/\σ.b 777=some (.arr 3 1 ((idxs (rows.length+1) (l.take k)).map iE))/\σ.b 900000=none/\σ.b 900105=some (.arr 89 1 (a.pats.map MPat.own))/\∃ o,σ.b 900106=some o/\KidsO l k o) l.length ⟨0,13,.inl rfl,by omega,by omega,?_⟩ ?_
  .simp only [go_sem,simprocAttr,Int.natCast_zero,List.take_zero,elayD_nil,List.length_append,idxs,List.map_nil]
   exact ⟨_,rfl,l.map eV,by rw [List.length_map],fun _ _=>rfl,.inl rfl⟩
  .rintro n σ ⟨k,nm,hnm,hk,rfl,h0,h3,h5,h6,h19,h20,b0,b3,b6,b7,b9,b5,o,b10,hko⟩ K' hK
   have hcl:=ZQ rows (l.take k);have hil:=idxs_len (rows.length+1) (l.take k);have hts:=xba l k;have hle:(l.take k).length<=k:=by rw [List.length_take];omega
   by_cases hlt:k<l.length
   .refine AC_kids b10 hko fun τ rs e1 e2 hrl hrs d10=>?_
    obtain ⟨b,q,hbr⟩:∃ b q,l[k]=.mk b q:=⟨_,_,Arb.eta _⟩;have he:eV l[k]=[.s (.int .i64 b.kind),.s (.int .i64 b.at_),.s (.int .i64 b.n),.s (.string b.s),.nil,.osl 89 1 (b.pats.map MPat.own),.osl 58 7 (q.map eV)]:=by rw [hbr,xr]
    have hrow:rs[k]?=some [.s (.int .i64 b.kind),.s (.int .i64 b.at_),.s (.int .i64 b.n),.s (.string b.s),.nil,.osl 89 1 (b.pats.map MPat.own),.osl 58 7 (q.map eV)]:=by
     rw [hrs k (Nat.le_refl _),List.getElem?_map,List.getElem?_eq_getElem hlt,Option.map_some,he]
    have hz:=xaE hlt;have hi:=ih l[k] (List.getElem_mem hlt) (wG rows (l.take k)) (by omega)
    have hcs:=xbC rows l k hlt;have his:=xbO (rows.length+1) l k hlt;rw [<- hcs,he] at hi
    have g0:=(congrFun e1 0).trans h0;have g3:=(congrFun e1 3).trans h3;have g5:=(congrFun e1 5).trans h5;have g6:=(congrFun e1 6).trans h6;have g19:=(congrFun e1 19).trans h19;have g20:=(congrFun e1 20).trans h20;have d0:=(e2 nm (by omega)).trans b0
    have d3:=(e2 3 (by omega)).trans b3
    have d6:=(e2 6 (by omega)).trans b6
    have d7:=(e2 777 (by omega)).trans b7
    have d9:=(e2 900000 (by omega)).trans b9
    have d5:=(e2 900105 (by omega)).trans b5
    clear h0 h3 h5 h6 h19 h20 b0 b3 b6 b7 b9 b5 b10 hko e1 e2;refine WW 900106 k d10 hrow (Xp 900106 5 778 (e:=58) (k:=7) (i:=k) (rows:=rs) (rr:=[.s (.int .i64 b.kind),.s (.int .i64 b.at_),.s (.int .i64 b.n),.s (.string b.s),.nil,.osl 89 1 (b.pats.map MPat.own),.osl 58 7 (q.map eV)]) (d:=.osl 89 1 (b.pats.map MPat.own)) (o:=.arr 89 1 (b.pats.map MPat.own)) (by simp only [go_sem,simprocAttr]) rfl rfl (by decide) rfl (Xp 900106 6 779 (e:=58) (k:=7) (i:=k) (rows:=rs) (rr:=[.s (.int .i64 b.kind),.s (.int .i64 b.at_),.s (.int .i64 b.n),.s (.string b.s),.nil,.bs 778 1 b.pats.length,.osl 58 7 (q.map eV)]) (d:=.osl 58 7 (q.map eV)) (o:=.arr 58 7 (q.map eV)) (by simp only [go_sem,simprocAttr]) rfl rfl (by decide) rfl ?_))
    rcases hnm with rfl|rfl
    ·(have hWf:=w10 @g0 @g3 @g5 @g6 @g19 @g20 @d0 @d3 @d6 (ai @d7<|ai @d9<|ai @d5<|ai @d10<|@he);repeat' (first|refine zS ?_|refine zI ?_ ?_|refine zH hi ?_|exact zF0|refine zD fun hb=>?_|exact zC|refine zT ?_|fail))
     refine hK (l.length - (k+1)) _ (by omega) ⟨k+1,1036,.inr rfl,by omega,rfl,?_⟩
     simp only [go_sem,simprocAttr,g0,g3,g5,g6,g19,g20,d0,d3,d6,d7,d9,d5,d10,he,Int.natCast_succ,his,List.map_append,List.length_append,hcl];exact ⟨rfl,_,rfl,rs,hrl,fun i hi=>hrs i (by omega),.inr ⟨k,_,by omega,rfl⟩⟩
    ·(have hWf:=w10 @g0 @g3 @g5 @g6 @g19 @g20 @d0 @d3 @d6 (ai @d7<|ai @d9<|ai @d5<|ai @d10<|@he);repeat' (first|refine zS ?_|refine zI ?_ ?_|refine zH hi ?_|exact zF0|refine zD fun hb=>?_|exact zC|refine zT ?_|fail))
     refine hK (l.length - (k+1)) _ (by omega) ⟨k+1,1036,.inr rfl,by omega,rfl,?_⟩
     simp only [go_sem,simprocAttr,g0,g3,g5,g6,g19,g20,d0,d3,d6,d7,d9,d5,d10,he,Int.natCast_succ,his,List.map_append,List.length_append,hcl];exact ⟨rfl,_,rfl,rs,hrl,fun i hi=>hrs i (by omega),.inr ⟨k,_,by omega,rfl⟩⟩
   .obtain rfl:k=l.length:=by omega
    rw [List.take_length] at h0 b0 b6 b7 hcl hil
    have hg:=elayD_get rows l;have hst:=elayD_set rows a l;have hln:(wG rows l).length=rows.length+(Arb.lay EI.node rows.length (.mk a l)).length:=by rw [ZQ,Arb.lay_len,size_mk];omega
    have htk:List.take (wG rows l).length (rows++(Arb.lay EI.node rows.length (.mk a l)).map MNode.own)=rows++(Arb.lay EI.node rows.length (.mk a l)).map MNode.own:=List.take_of_length_le (by rw [hln,List.length_append,List.length_map];exact Nat.le_refl _)
    refine AC_drop 900106 fun τ e1 e2 d10=>?_
    have g0:=(congrFun e1 0).trans h0;have g3:=(congrFun e1 3).trans h3;have g5:=(congrFun e1 5).trans h5;have g6:=(congrFun e1 6).trans h6;have g19:=(congrFun e1 19).trans h19;have g20:=(congrFun e1 20).trans h20;have d0:=(e2 nm (by omega)).trans b0
    have d3:=(e2 3 (by omega)).trans b3
    have d6:=(e2 6 (by omega)).trans b6
    have d7:=(e2 777 (by omega)).trans b7
    have d9:=(e2 900000 (by omega)).trans b9
    have d5:=(e2 900105 (by omega)).trans b5
    clear h0 h3 h5 h6 h19 h20 b0 b3 b6 b7 b9 b5 b10 hko e1 e2;rcases hnm with rfl|rfl
    ·(have hWf:=w10 @g0 @g3 @g5 @g6 @g19 @g20 @d0 @d3 @d6 (ai @d7<|ai @d9<|ai @d5<|ai @d10<|ai @hg<|ai @hst<|@htk);repeat' (first|refine zS ?_|refine zI ?_ ?_|exact zF0|refine zD fun hb=>?_|exact zC|refine zT ?_|fail))
     all_goals exact Nat.le_of_eq hln
    ·(have hWf:=w10 @g0 @g3 @g5 @g6 @g19 @g20 @d0 @d3 @d6 (ai @d7<|ai @d9<|ai @d5<|ai @d10<|ai @hg<|ai @hst<|@htk);repeat' (first|refine zS ?_|refine zI ?_ ?_|exact zF0|refine zD fun hb=>?_|exact zC|refine zT ?_|fail))
     all_goals exact Nat.le_of_eq hln
def CExp(T:List MTok)(e:Int)(R:PS->ET×PS)(d:Int):Prop:=∀ s:PS,WF T s->FT 130 [.opt (rdD T e s),.s (.int .i64 d)] (fun r o=>r=.ag (eV (R s).1)/\o=[.opt (rdD T e (R s).2),.un])
section
variable {T:List MTok} {e:Int} {R:PS->ET×PS}
theorem XZ{s:PS}(h:begT (tokS T e s)=true):s.i<T.length:=(xS (Xr h)).2
def EA(T:List MTok)(e:Int)(d:Int)(s:PS)(r:ET×PS):Prop:=FT 277 [.opt (rdD T e s),.s (.int .i64 d)] (fun x o=>x=.ag (eV r.1)/\o=[.opt (rdD T e r.2),.un])
theorem eatom_no(d:Int)(s:PS)(h0:begT (tokS T e s)=false):EA T e d s (E0,xG T e s 7):=by
 have ht:=xp T e s;have hb:=yE T e s;have hf:=y3 T e s 7;rw [h0] at hb
 unfold EA;generalize tokS T e s=t at *
 rw [MTok.enc_eq,xh] at ht
 rw [xh] at hb
 rw [xb,xb] at hf
 refine FCon.eLeaf ?_;rw [xb,xb];refine FI PM Tryz.func277 Tryz.ntmps277 [] rfl rfl ?_
 (have hWf:=w2 @xe @xd;repeat' (first|refine zS ?_|refine zI ?_ ?_|refine zK ht ?_|refine zK hb ?_|refine zH hf ?_|exact zF0|refine zD fun hb=>?_|exact zC|refine zT ?_|fail))
 all_goals rfl
theorem eatom_int(hT:T.length<=10000)(d:Int)(s:PS)(h0:begT (tokS T e s)=true)(h1:(tokS T e s).kind=1):EA T e d s (.mk ⟨1,(tokS T e s).at_,(tokS T e s).n,nS,[]⟩ [],advS s):=by
 have ht:=xp T e s;have hb:=yE T e s;have hlt:=(xS (by rw [h1];decide)).2
 rw [h0] at hb
 unfold EA;generalize tokS T e s=t at *
 have f1:=kT h1;rw [MTok.enc_eq,xh] at ht
 rw [xh] at hb
 refine FCon.eLeaf ?_;show FCon _ _ _ (fun x o=>_/\o=[.opt (rdD T e (advS s)),.un])
 unfold advS;rw [xb,xb];refine FI PM Tryz.func277 Tryz.ntmps277 [] rfl rfl ?_
 (have hWf:=w3 @xe @xd @f1;repeat' (first|refine zS ?_|refine zI ?_ ?_|refine zK ht ?_|refine zK hb ?_|exact zF0|refine zD fun hb=>?_|exact zC|refine zT ?_|fail))
 all_goals rfl
theorem eatom_str(hT:T.length<=10000)(d:Int)(s:PS)(h0:begT (tokS T e s)=true)(h1:(tokS T e s).kind=2):EA T e d s (eN 2 (tokS T e s).at_ (tokS T e s).s [],advS s):=by
 have ht:=xp T e s;have hb:=yE T e s;have hlt:=(xS (by rw [h1];decide)).2
 have ho:=vh 2 (tokS T e s).at_ (tokS T e s).s;rw [h0] at hb
 unfold EA;generalize tokS T e s=t at *
 have f1:(t.kind==1)=false:=by rw [h1];rfl
 have f2:=kT h1;rw [MTok.enc_eq,xh] at ht
 rw [xh] at hb
 rw [xP] at ho
 show FCon _ _ _ (fun x o=>x=.ag (eV (eN 2 t.at_ t.s []))/\o=[.opt (rdD T e (advS s)),.un])
 unfold advS;rw [xP,xb,xb];refine FI PM Tryz.func277 Tryz.ntmps277 [] rfl rfl ?_
 (have hWf:=w4 @xe @xd @f1 @f2;repeat' (first|refine zS ?_|refine zI ?_ ?_|refine zK ht ?_|refine zK hb ?_|refine zH ho ?_|exact zF0|refine zD fun hb=>?_|exact zC|refine zT ?_|fail))
 all_goals rfl
theorem eatom_var(hT:T.length<=10000)(d:Int)(s:PS)(h0:begT (tokS T e s)=true)(h1:(tokS T e s).kind=3):EA T e d s (eN 3 (tokS T e s).at_ (tokS T e s).s [],advS s):=by
 have ht:=xp T e s;have hb:=yE T e s;have hlt:=(xS (by rw [h1];decide)).2
 have ho:=vh 3 (tokS T e s).at_ (tokS T e s).s;rw [h0] at hb
 unfold EA;generalize tokS T e s=t at *
 have f1:(t.kind==1)=false:=by rw [h1];rfl
 have f2:(t.kind==2)=false:=by rw [h1];rfl
 have f3:=kT h1;rw [MTok.enc_eq,xh] at ht
 rw [xh] at hb
 rw [xP] at ho
 show FCon _ _ _ (fun x o=>x=.ag (eV (eN 3 t.at_ t.s []))/\o=[.opt (rdD T e (advS s)),.un])
 unfold advS;rw [xP,xb,xb];refine FI PM Tryz.func277 Tryz.ntmps277 [] rfl rfl ?_
 (have hWf:=w5 @xe @xd @f1 @f2 @f3;repeat' (first|refine zS ?_|refine zI ?_ ?_|refine zK ht ?_|refine zK hb ?_|refine zH ho ?_|exact zF0|refine zD fun hb=>?_|exact zC|refine zT ?_|fail))
 all_goals rfl
theorem eatom_con(hT:T.length<=10000)(d:Int)(s:PS)(h0:begT (tokS T e s)=true)(h1:(tokS T e s).kind=4):EA T e d s (eN 4 (tokS T e s).at_ (tokS T e s).s [],advS s):=by
 have ht:=xp T e s;have hb:=yE T e s;have hlt:=(xS (by rw [h1];decide)).2
 have ho:=vh 4 (tokS T e s).at_ (tokS T e s).s;rw [h0] at hb
 unfold EA;generalize tokS T e s=t at *
 have f1:(t.kind==1)=false:=by rw [h1];rfl
 have f2:(t.kind==2)=false:=by rw [h1];rfl
 have f3:(t.kind==3)=false:=by rw [h1];rfl
 have f4:=kT h1;rw [MTok.enc_eq,xh] at ht
 rw [xh] at hb
 rw [xP] at ho
 show FCon _ _ _ (fun x o=>x=.ag (eV (eN 4 t.at_ t.s []))/\o=[.opt (rdD T e (advS s)),.un])
 unfold advS;rw [xP,xb,xb];refine FI PM Tryz.func277 Tryz.ntmps277 [] rfl rfl ?_
 (have hWf:=w6 @xe @xd @f1 @f2 @f3 @f4;repeat' (first|refine zS ?_|refine zI ?_ ?_|refine zK ht ?_|refine zK hb ?_|refine zH ho ?_|exact zF0|refine zD fun hb=>?_|exact zC|refine zT ?_|fail))
 all_goals rfl
theorem eatom_nil(hT:T.length<=10000)(d:Int)(hd:0<=d/\d<=1000)(s:PS)(h0:begT (tokS T e s)=true)(k1:¬ (tokS T e s).kind=1)(k2:¬ (tokS T e s).kind=2)(k3:¬ (tokS T e s).kind=3)(k4:¬ (tokS T e s).kind=4)(n0:((tokS T e s).s.toList==((⟨#[91]⟩:ByteArray)).toList)=true):EA T e d s (eN 4 (tokS T e s).at_ (⟨#[91,93]⟩:ByteArray) [],xf T e (advS s) (⟨#[93]⟩:ByteArray)):=by
 have ht:=xp T e s;have hb:=yE T e s;have hlt:=XZ h0;have ho:=vh 4 (tokS T e s).at_ (⟨#[91,93]⟩:ByteArray);have htk:=xI T e (advS s) (by omega) (⟨#[93]⟩:ByteArray) (xa (l:=[93]) (by simp))
 rw [h0] at hb
 unfold EA;generalize tokS T e s=t at *
 have f1:=kF k1;have f2:=kF k2;have f3:=kF k3;have f4:=kF k4;rw [MTok.enc_eq,xh] at ht
 rw [xh] at hb
 rw [xP] at ho
 simp only;generalize xf T e (advS s) (⟨#[93]⟩:ByteArray)=s2 at *
 unfold advS at htk
 rw [xb,xb] at htk
 rw [xP,xb,xb];refine FI PM Tryz.func277 Tryz.ntmps277 [] rfl rfl ?_
 (have hWf:=w7 @xe @xd @f1 @f2 @f3 @f4 @n0;repeat' (first|refine zS ?_|refine zI ?_ ?_|refine zK ht ?_|refine zK hb ?_|refine zH htk ?_|refine zH ho ?_|exact zF0|refine zD fun hb=>?_|exact zC|refine zT ?_|fail))
 all_goals rfl
theorem eatom_oth(hT:T.length<=10000)(d:Int)(hd:0<=d/\d<=1000)(s:PS)(h0:begT (tokS T e s)=true)(k1:¬ (tokS T e s).kind=1)(k2:¬ (tokS T e s).kind=2)(k3:¬ (tokS T e s).kind=3)(k4:¬ (tokS T e s).kind=4)(n0:((tokS T e s).s.toList==((⟨#[91]⟩:ByteArray)).toList)=false)(n1:((tokS T e s).s.toList==((⟨#[40]⟩:ByteArray)).toList)=false):EA T e d s (eN 4 (tokS T e s).at_ (tokS T e s).s [],advS s):=by
 have ht:=xp T e s;have hb:=yE T e s;have hlt:=XZ h0;have ho:=vh 4 (tokS T e s).at_ (tokS T e s).s;rw [h0] at hb
 unfold EA;generalize tokS T e s=t at *
 have f1:=kF k1;have f2:=kF k2;have f3:=kF k3;have f4:=kF k4;rw [MTok.enc_eq,xh] at ht
 rw [xh] at hb
 rw [xP] at ho
 show FCon _ _ _ (fun x o=>x=.ag (eV (eN 4 t.at_ t.s []))/\o=[.opt (rdD T e (advS s)),.un])
 unfold advS;rw [xP,xb,xb];refine FI PM Tryz.func277 Tryz.ntmps277 [] rfl rfl ?_
 (have hWf:=w8 @xe @xd @f1 @f2 @f3 @f4 @n0 @n1;repeat' (first|refine zS ?_|refine zI ?_ ?_|refine zK ht ?_|refine zK hb ?_|refine zH ho ?_|exact zF0|refine zD fun hb=>?_|exact zC|refine zT ?_|fail))
 all_goals rfl
theorem xbB(hT:T.length<=10000)(d:Int)(hd:0<=d/\d<=1000)(s:PS)(h0:begT (tokS T e s)=true)(k1:¬ (tokS T e s).kind=1)(k2:¬ (tokS T e s).kind=2)(k3:¬ (tokS T e s).kind=3)(k4:¬ (tokS T e s).kind=4)(n0:((tokS T e s).s.toList==((⟨#[91]⟩:ByteArray)).toList)=false)(n1:((tokS T e s).s.toList==((⟨#[40]⟩:ByteArray)).toList)=true)(h2:isS T e (advS s) (⟨#[41]⟩:ByteArray)=true):EA T e d s (eN 12 (tokS T e s).at_ nS [],advS (advS s)):=by
 have ht:=xp T e s;have hb:=yE T e s;have hlt:=XZ h0;have ho:=vh 12 (tokS T e s).at_ nS;have his:=xD T e (advS s) (⟨#[41]⟩:ByteArray);have hlt2:=(xA h2 (xa (l:=[41]) (by simp))).2
 rw [h2] at his
 rw [h0] at hb
 unfold EA;clear h2;generalize tokS T e s=t at *
 have f1:=kF k1;have f2:=kF k2;have f3:=kF k3;have f4:=kF k4;rw [MTok.enc_eq,xh] at ht
 rw [xh] at hb
 rw [xP] at ho
 unfold nS at *
 show FCon _ _ _ (fun x o=>x=.ag (eV (eN 12 t.at_ _ []))/\o=[.opt (rdD T e (advS (advS s))),.un])
 unfold advS at *
 rw [xh] at his
 rw [xP,xb,xb];refine FI PM Tryz.func277 Tryz.ntmps277 [] rfl rfl ?_
 (have hWf:=w8 @xe @xd @f1 @f2 @f3 @f4 @n0 @n1;repeat' (first|refine zS ?_|refine zI ?_ ?_|refine zK ht ?_|refine zK hb ?_|refine zK his ?_|refine zH ho ?_|exact zF0|refine zD fun hb=>?_|exact zC|refine zT ?_|fail))
 all_goals rfl
theorem eatom_par(hT:T.length<=10000)(d:Int)(hd:0<=d/\d<=1000)(s:PS)(h0:begT (tokS T e s)=true)(k1:¬ (tokS T e s).kind=1)(k2:¬ (tokS T e s).kind=2)(k3:¬ (tokS T e s).kind=3)(k4:¬ (tokS T e s).kind=4)(n0:((tokS T e s).s.toList==((⟨#[91]⟩:ByteArray)).toList)=false)(n1:((tokS T e s).s.toList==((⟨#[40]⟩:ByteArray)).toList)=true)(h2:isS T e (advS s) (⟨#[41]⟩:ByteArray)=false)(hR:CExp T e R (d+1))(w1:WF T (advS s))(h5:isS T e (R (advS s)).2 (⟨#[44]⟩:ByteArray)=false):EA T e d s ((R (advS s)).1,xf T e (R (advS s)).2 (⟨#[41]⟩:ByteArray)):=by
 have ht:=xp T e s;have hb:=yE T e s;have hlt:=XZ h0;have his:=xD T e (advS s) (⟨#[41]⟩:ByteArray);rw [h2] at his
 have hr:=hR (advS s) w1;have hic:=xD T e (R (advS s)).2 (⟨#[44]⟩:ByteArray);rw [h5] at hic
 have htk:=xI T e (R (advS s)).2 (by omega) (⟨#[41]⟩:ByteArray) (xa (l:=[41]) (by simp))
 rw [h0] at hb
 unfold EA;clear h2 h5;generalize tokS T e s=t at *
 have f1:=kF k1;have f2:=kF k2;have f3:=kF k3;have f4:=kF k4;rw [MTok.enc_eq,xh] at ht
 rw [xh] at hb
 rcases hq:R (advS s) with ⟨⟨a,l⟩,s1⟩
 rw [hq] at hr hic htk
 simp only at hr hic htk ⊢
 generalize xf T e s1 (⟨#[41]⟩:ByteArray)=s2 at *
 unfold advS at *
 rw [xr,xb,xb] at hr
 rw [xb,xb] at htk
 rw [xh] at his hic
 rw [xr,xb,xb];refine FI PM Tryz.func277 Tryz.ntmps277 [] rfl rfl ?_
 (have hWf:=w8 @xe @xd @f1 @f2 @f3 @f4 @n0 @n1;repeat' (first|refine zS ?_|refine zI ?_ ?_|refine zK ht ?_|refine zK hb ?_|refine zK his ?_|refine zH hr ?_|refine zK hic ?_|refine zH htk ?_|exact zF0|refine zD fun hb=>?_|exact zC|refine zT ?_|fail))
 all_goals rfl
theorem xbA(hT:T.length<=10000)(d:Int)(hd:0<=d/\d<=1000)(s:PS)(h0:begT (tokS T e s)=true)(k1:¬ (tokS T e s).kind=1)(k2:¬ (tokS T e s).kind=2)(k3:¬ (tokS T e s).kind=3)(k4:¬ (tokS T e s).kind=4)(n0:((tokS T e s).s.toList==((⟨#[91]⟩:ByteArray)).toList)=false)(n1:((tokS T e s).s.toList==((⟨#[40]⟩:ByteArray)).toList)=true)(h2:isS T e (advS s) (⟨#[41]⟩:ByteArray)=false)(hR:CExp T e R (d+1))(w1:WF T (advS s))(h5:isS T e (R (advS s)).2 (⟨#[44]⟩:ByteArray)=true)(w2:WF T (advS (R (advS s)).2)):EA T e d s (eN 11 (tokS T e s).at_ nS [(R (advS s)).1,(R (advS (R (advS s)).2)).1],xf T e (R (advS (R (advS s)).2)).2 (⟨#[41]⟩:ByteArray)):=by
 have ht:=xp T e s;have hb:=yE T e s;have hlt:=XZ h0;have his:=xD T e (advS s) (⟨#[41]⟩:ByteArray);rw [h2] at his
 have hr:=hR (advS s) w1;have hic:=xD T e (R (advS s)).2 (⟨#[44]⟩:ByteArray);have hlt2:=(xA h5 (xa (l:=[44]) (by simp))).2
 rw [h5] at hic
 have hr2:=hR (advS (R (advS s)).2) w2;have htk:=xI T e (R (advS (R (advS s)).2)).2 (by omega) (⟨#[41]⟩:ByteArray) (xa (l:=[41]) (by simp))
 have ho:=yb 11 (tokS T e s).at_ nS [(R (advS s)).1,(R (advS (R (advS s)).2)).1];rw [h0] at hb
 unfold EA;clear h2 h5 w1 w2;generalize tokS T e s=t at *
 have f1:=kF k1;have f2:=kF k2;have f3:=kF k3;have f4:=kF k4;rw [MTok.enc_eq,xh] at ht
 rw [xh] at hb
 rcases hq:R (advS s) with ⟨⟨a,l⟩,s1⟩
 rw [hq] at hr hic htk hr2 hlt2 ho
 simp only at hr hic htk hr2 hlt2 ho ⊢
 rcases hq2:R (advS s1) with ⟨⟨b,r⟩,s2⟩
 rw [hq2] at htk hr2 ho
 simp only at htk hr2 ho ⊢
 generalize xf T e s2 (⟨#[41]⟩:ByteArray)=s3 at *
 clear hq hq2;unfold advS at *
 unfold nS at *
 rw [xr,xb,xb] at hr hr2
 rw [xb,xb] at htk
 rw [xh] at his hic
 rw [xP,List.map_cons,List.map_cons,List.map_nil,xr,xr] at ho
 rw [xP,List.map_cons,List.map_cons,List.map_nil,xr,xr,xb,xb];refine FI PM Tryz.func277 Tryz.ntmps277 [] rfl rfl ?_
 (have hWf:=w8 @xe @xd @f1 @f2 @f3 @f4 @n0 @n1;repeat' (first|refine zS ?_|refine zI ?_ ?_|refine zK ht ?_|refine zK hb ?_|refine zK his ?_|refine zH hr ?_|refine zK hic ?_|refine zH hr2 ?_|refine zH ho ?_|refine zH htk ?_|exact zF0|refine zD fun hb=>?_|exact zC|refine zT ?_|fail))
 all_goals rfl
theorem VW(hT:T.length<=10000)(hRb:∀ s,EB T s (R s))(d:Int)(hd:0<=d/\d<=1000)(hR:CExp T e R (d+1))(s:PS)(hs:WF T s):EA T e d s (zm T e R s):=by
 unfold zm
 by_cases h0:begT (tokS T e s)=true
 .rw [if_pos h0]
  have w1:WF T (advS s):=(Mo.adv (XZ h0)).wf hs
  by_cases h1:(tokS T e s).kind=1
  .rw [if_pos h1];exact eatom_int hT d s h0 h1
  rw [if_neg h1]
  by_cases h2:(tokS T e s).kind=2
  .rw [if_pos h2];exact eatom_str hT d s h0 h2
  rw [if_neg h2]
  by_cases h3:(tokS T e s).kind=3
  .rw [if_pos h3];exact eatom_var hT d s h0 h3
  rw [if_neg h3]
  by_cases h4:(tokS T e s).kind=4
  .rw [if_pos h4];exact eatom_con hT d s h0 h4
  rw [if_neg h4]
  by_cases h5:((tokS T e s).s.toList==((⟨#[91]⟩:ByteArray)).toList)=true
  .rw [if_pos h5];exact eatom_nil hT d hd s h0 h1 h2 h3 h4 h5
  rw [if_neg h5];have n5:=Bool.eq_false_iff.2 h5
  by_cases h6:((tokS T e s).s.toList==((⟨#[40]⟩:ByteArray)).toList)=true
  .rw [if_pos h6]
   by_cases h7:isS T e (advS s) (⟨#[41]⟩:ByteArray)=true
   .rw [if_pos h7];exact xbB hT d hd s h0 h1 h2 h3 h4 n5 h6 h7
   rw [if_neg h7];have n7:=Bool.eq_false_iff.2 h7;rcases hq:R (advS s) with ⟨a,s1⟩
   have m1:=(hRb (advS s)).1;simp only
   by_cases h8:isS T e s1 (⟨#[44]⟩:ByteArray)=true
   .rw [if_pos h8]
    rcases hq2:R (advS s1) with ⟨b,s2⟩
    simp only;have w2:WF T (advS (R (advS s)).2):=by
     rw [hq] at m1 ⊢
     exact (Mo.advS h8 (xa (l:=[44]) (by simp))).wf (m1.wf w1)
    have:=xbA hT d hd s h0 h1 h2 h3 h4 n5 h6 n7 hR w1 (by rw [hq];exact h8) w2
    rw [hq] at this
    simp only at this
    rw [hq2] at this
    exact this
   .rw [if_neg h8]
    have:=eatom_par hT d hd s h0 h1 h2 h3 h4 n5 h6 n7 hR w1 (by rw [hq];exact Bool.eq_false_iff.2 h8)
    rw [hq] at this
    exact this
  rw [if_neg h6];exact eatom_oth hT d hd s h0 h1 h2 h3 h4 n5 (Bool.eq_false_iff.2 h6)
 .rw [if_neg h0];exact eatom_no d s (Bool.eq_false_iff.2 h0)
end
section
variable {T:List MTok} {e:Int} {R:PS->ET×PS}
theorem appF_go{n:Nat}{bare:Bool}{a:ET}{s:PS}(h:s.code=0/\begT (tokS T e s)=true):appF T e R (n+1) bare a s=appF T e R n false (if bare=true then kidT a (zm T e R s).1 else eN 6 (tokS T e s).at_ nS [a,(zm T e R s).1]) (zm T e R s).2:=by
 conv=>lhs;unfold appF
 rw [if_pos h]
theorem appF_stop{n:Nat}{bare:Bool}{a:ET}{s:PS}(h:¬ (s.code=0/\begT (tokS T e s)=true)):appF T e R n bare a s=(a,s):=by
 cases n with
 | zero=>rfl
 | succ n=>unfold appF;rw [if_neg h]
def appN(bare:Bool)(p k:Nat):Prop:=(p=6015/\k=7015)\/(bare=false/\((p=6039/\k=7039)\/(p=6015/\k=33)))
theorem c_l03App(hT:T.length<=10000)(hRb:∀ s,EB T s (R s))(d:Int)(hd:0<=d/\d<=1000)(hR:CExp T e R (d+1))(s:PS)(hs:WF T s):FT 276 [.opt (rdD T e s),.s (.int .i64 d)] (fun x o=>x=.ag (eV (appS T e R s).1)/\o=[.opt (rdD T e (appS T e R s).2),.un]):=by
 have ht:=xp T e s;have ha:=VW hT hRb d hd hR s hs;have m0:=(YM hRb (e:=e) s).1;unfold EA at ha
 conv=>rhs;unfold appS
 rcases hq:zm T e R s with ⟨a,s1⟩
 rw [hq] at ha m0
 simp only at ha m0 ⊢
 have w0:=m0.wf hs;generalize hbare:decide ((tokS T e s).kind=4)=bare;have hbe:((tokS T e s).kind==4)=bare:=by rw [<- hbare];rfl
 obtain ⟨rr,hrr⟩:∃ r,appF T e R (T.length+1) bare a s1=r:=⟨_,rfl⟩;rw [hrr];generalize tokS T e s=t at *
 rw [MTok.enc_eq,xh] at ht
 obtain ⟨b,l⟩:=a;rw [xr,xb,xb] at ha
 rw [xb];clear hq hbare;refine FI PM Tryz.func276 Tryz.ntmps276 [] rfl rfl ?_
 (have hWf:=w3 @xe @xd @hbe;repeat' (first|refine zS ?_|refine zI ?_ ?_|refine zK ht ?_|refine zH ha ?_|exact zF0|refine zD fun hb=>?_|exact zC|refine zT ?_|fail))
 refine xn (fun n σ=>∃ (j p q:Nat) (bare:Bool) (b:EI) (l:List ET) (s':PS),appN bare p q/\n=T.length - s'.i/\T.length - s'.i<j/\WF T s'/\appF T e R j bare (.mk b l) s'=rr/\σ.t 0=.bx 900000 0/\σ.b 900000=some (.box [.sl 4 (T.map MTok.enc),.s (.int .i64 s'.i),.s (.int .i64 e),.s (.int .i64 s'.code),.s (.int .i64 s'.at_),.sl 1 (s'.vars.map iE),.bs 7900000 1 s'.seen.length])/\σ.b 7900000=some (.arr 9 1 (s'.seen.map stE))/\σ.t 1=.s (.int .i64 d)/\σ.t 4=.bx 4 0/\σ.b 4=some (.box [.s (.int .i64 0),.s (.int .i64 0),.s (.int .i64 0),.s (.string ⟨#[]⟩),.nil,.nil,.nil])/\σ.t 5=.s (.bool bare)/\σ.t 6=.bx 6 0/\σ.b 6=some (.box [.s (.int .i64 b.kind),.s (.int .i64 b.at_),.s (.int .i64 b.n),.s (.string b.s),.nil,.bs p 1 b.pats.length,.bs q 7 l.length])/\σ.b p=some (.arr 89 1 (b.pats.map MPat.own))/\σ.b q=some (.arr 58 7 (l.map eV))) (T.length - s1.i) ⟨T.length+1,6015,7015,bare,b,l,s1,.inl ⟨rfl,rfl⟩,rfl,by omega,w0,hrr,?_⟩ ?_
 .simp only [go_sem,simprocAttr]
  done
 .rintro m σ ⟨j,p,q,bare,b,l,s',hnm,rfl,hj,hw,hap,h0,b9,b7,h1,h4,b4,h5,h6,b6,bp,bq⟩ K' hK
  have hbg:=yE T e s';rw [xh] at hbg
  by_cases hc:s'.code=0/\begT (tokS T e s')=true
  .obtain ⟨j,rfl⟩:∃ q,j=q+1:=⟨j - 1,by omega⟩
   have hlt:=XZ hc.2;have f0:=kT hc.1;have het:=QU hRb (e:=e) hc.2;have m1:=(YM hRb (e:=e) s').1;have ht':=xp T e s';have ha':=VW hT hRb d hd hR s' hw;have w1:=m1.wf hw;rw [appF_go hc] at hap
   rw [hc.2] at hbg
   unfold EA at ha'
   rcases hq:zm T e R s' with ⟨⟨c,r⟩,s2⟩
   rw [hq] at ha' hap het m1 w1
   simp only at ha' hap het m1 w1
   have ho:=yb 6 (tokS T e s').at_ nS [.mk b l,.mk c r];generalize tokS T e s'=u at *
   rw [MTok.enc_eq,xh] at ht'
   rw [xr,xb,xb] at ha'
   rw [xP,List.map_cons,List.map_cons,List.map_nil,xr,xr] at ho
   have hf0:=het.2;cases bare with
   | true=>
    rw [if_pos rfl] at hap
    obtain ⟨rfl,rfl⟩:p=6015/\q=7015:=by
     rcases hnm with h|⟨h,-⟩
     .exact h
     .cases h
    (have hWf:=w10 @h0 @b9 @b7 @h1 @h4 @b4 @h5 @h6 @b6 (ai @bp<|ai @bq<|ai @xe<|ai @xd<|@f0);repeat' (first|refine zS ?_|refine zI ?_ ?_|refine zK hbg ?_|refine zK (ht') ?_|refine zH ha' ?_|exact zF0|refine zD fun hb=>?_|exact zC|refine zT ?_|fail))
    refine hK (T.length - s2.i) _ (by omega) ⟨j,6015,33,false,b,[.mk c r],s2,.inr ⟨rfl,.inr ⟨rfl,rfl⟩⟩,rfl,by omega,w1,hap,?_⟩
    simp only [go_sem,simprocAttr,h0,b9,b7,h1,h4,b4,h5,h6,b6,bp,bq,xe,xd,List.map_cons,List.map_nil,xr]
    done
   | false=>
    rw [if_neg (by decide)] at hap
    unfold nS at ho
    rcases hnm with ⟨rfl,rfl⟩|⟨hbr,⟨rfl,rfl⟩|⟨rfl,rfl⟩⟩
    all_goals
     (have hWf:=w10 @h0 @b9 @b7 @h1 @h4 @b4 @h5 @h6 @b6 (ai @bp<|ai @bq<|ai @xe<|ai @xd<|@f0);repeat' (first|refine zS ?_|refine zI ?_ ?_|refine zK hbg ?_|refine zK (ht') ?_|refine zH ha' ?_|refine zH ho ?_|exact zF0|refine zD fun hb=>?_|exact zC|refine zT ?_|fail))
     refine hK (T.length - s2.i) _ (by omega) ⟨j,6039,7039,false,⟨6,u.at_,0,nS,[]⟩,[.mk b l,.mk c r],s2,.inr ⟨rfl,.inl ⟨rfl,rfl⟩⟩,rfl,by omega,w1,hap,?_⟩
     simp only [go_sem,simprocAttr,h0,b9,b7,h1,h4,b4,h5,h6,b6,bp,bq,xe,xd,List.map_cons,List.map_nil,xr]
     rfl
  .rw [appF_stop hc] at hap
   subst hap;simp only;rw [xr,xb];rcases hnm with ⟨rfl,rfl⟩|⟨hbr,⟨rfl,rfl⟩|⟨rfl,rfl⟩⟩
   all_goals
    rcases Bool.eq_false_or_eq_true (s'.code==0) with f0|f0
    .have hbf:begT (tokS T e s')=false:=by
      cases z:begT (tokS T e s') with
      | false=>rfl
      | true=>exact absurd ⟨by simpa using f0,z⟩ hc
     rw [hbf] at hbg
     (have hWf:=w10 @h0 @b9 @b7 @h1 @h4 @b4 @h5 @h6 @b6 (ai @bp<|ai @bq<|ai @xe<|ai @xd<|@f0);repeat' (first|refine zS ?_|refine zI ?_ ?_|refine zK hbg ?_|exact zF0|refine zD fun hb=>?_|exact zC|refine zT ?_|fail))
     done
    ·(have hWf:=w10 @h0 @b9 @b7 @h1 @h4 @b4 @h5 @h6 @b6 (ai @bp<|ai @bq<|ai @xe<|ai @xd<|@f0);repeat' (first|refine zS ?_|refine zI ?_ ?_|refine zK hbg ?_|exact zF0|refine zD fun hb=>?_|exact zC|refine zT ?_|fail))
     done
end
theorem Rep.rowsW{S:Nat->Prop}{up:Nat->Option Pos}{w:World}{p:Option Pos}{e k:Nat}{rows rows':List (List D)}{v:Value}(h:Rep S up w p (.osl e k rows) v)(hl:rows'.length=rows.length)
  (hr:∀ (i:Nat) (row':List D),rows'[i]?=some row'->∃ row,rows[i]?=some row/\row'.length=row.length/\∀ (j:Nat) (d':D),row'[j]?=some d'->∃ d,row[j]?=some d/\nwD d d'):Rep S up w p (.osl e k rows') v:=by
 cases h with
 | osl0=>
  obtain rfl:=List.length_eq_zero_iff.1 hl;exact .osl0
 | osl cs q1 q2 q3 q4 q5 q6 q7=>
  rw [<- hl] at q3 ⊢
  refine .osl cs q1 q2 q3 q4 q5 (fun i row' hi=>?_) (fun i j row' d' hi hj=>?_)
  .obtain ⟨row,h1,h2,-⟩:=hr i row' hi
   rw [h2];exact q6 i row h1
  .obtain ⟨row,h1,-,h3⟩:=hr i row' hi
   obtain ⟨d,h4,h5⟩:=h3 j d' hj;have:=q7 i j row d h1 h4;rcases h5 with rfl|⟨rfl,⟨k',rfl⟩|⟨e',k',rfl⟩⟩
   .exact this
   .exact Rep.nil_sl k' this
   .exact Rep.nil_osl e' k' this
def zrow(k a:Int):List D:=[.s (.int .i64 k),.s (.int .i64 a),.s (.int .i64 0),.s (.string nS),.nil,.nil,.nil]
theorem c_l03OneM(k k1 a:Int)(s:ByteArray)(t:ET):FT 154 [.s (.int .i64 k),.s (.int .i64 a),.s (.string s),.osl 58 7 [zrow k1 a,eV t]] (fun r o=>r=.ag (eV (eN k a s [eN k1 a nS [],t]))/\o=[.un,.un,.un,.un]):=by
 have hz:FT 154 [.s (.int .i64 k),.s (.int .i64 a),.s (.string s),.osl 58 7 [zrow k1 a,eV t]] (fun r o=>r=.ag [.s (.int .i64 k),.s (.int .i64 a),.s (.int .i64 0),.s (.string s),.nil,.nil,.osl 58 7 [zrow k1 a,eV t]]/\o=[.un,.un,.un,.un]):=by
  generalize zrow k1 a=z;generalize eV t=z';refine FI PM Tryz.func154 Tryz.ntmps154 [] rfl rfl ?_
  (have hWf:=f0;repeat' (first|refine zS ?_|refine zI ?_ ?_|exact zF0|refine zD fun hb=>?_|exact zC|refine zT ?_|fail))
 rw [xP,List.map_cons,List.map_cons,List.map_nil,xP,List.map_nil];refine hz.wk fun r o' e=>?_
 obtain ⟨rfl,rfl⟩:=e;refine ⟨_,⟨rfl,rfl⟩,fun g w v q=>?_⟩
 obtain ⟨us,rfl,h1,h2⟩:=q;refine ⟨us,rfl,h1,fun j y u hy hu=>?_⟩
 match j,hy with
 | 0,hy=>exact h2 0 y u hy hu
 | 1,hy=>exact h2 1 y u hy hu
 | 2,hy=>exact h2 2 y u hy hu
 | 3,hy=>exact h2 3 y u hy hu
 | 4,hy=>exact h2 4 y u hy hu
 | 5,hy=>
  obtain rfl:=Option.some.inj hy;exact Rep.nil_osl _ 1 (h2 5 .nil u rfl hu)
 | 6,hy=>
  obtain rfl:=Option.some.inj hy;refine Rep.rowsW (rows:=[zrow k1 a,eV t]) (h2 6 _ u rfl hu) rfl fun i row' hi=>?_
  match i,hi with
  | 0,hi=>
   obtain rfl:=Option.some.inj hi;refine ⟨_,rfl,rfl,fun j d' hj=>?_⟩
   match j,hj with
   | 0,hj=>exact ⟨_,rfl,.inl (Option.some.inj hj).symm⟩
   | 1,hj=>exact ⟨_,rfl,.inl (Option.some.inj hj).symm⟩
   | 2,hj=>exact ⟨_,rfl,.inl (Option.some.inj hj).symm⟩
   | 3,hj=>exact ⟨_,rfl,.inl (Option.some.inj hj).symm⟩
   | 4,hj=>exact ⟨_,rfl,.inl (Option.some.inj hj).symm⟩
   | 5,hj=>exact ⟨_,rfl,.inr ⟨rfl,.inr ⟨_,1,(Option.some.inj hj).symm⟩⟩⟩
   | 6,hj=>exact ⟨_,rfl,.inr ⟨rfl,.inr ⟨_,7,(Option.some.inj hj).symm⟩⟩⟩
  | 1,hi=>
   obtain rfl:=Option.some.inj hi;exact ⟨_,rfl,rfl,fun j d' hj=>⟨d',hj,.inl rfl⟩⟩
section
variable {T:List MTok} {e:Int} {R:PS->ET×PS}
def EU(T:List MTok)(e:Int)(d:Int)(s:PS)(r:ET×PS):Prop:=FT 272 [.opt (rdD T e s),.s (.int .i64 d)] (fun x o=>x=.ag (eV r.1)/\o=[.opt (rdD T e r.2),.un])
theorem eun_0(hT:T.length<=10000)(d:Int)(hd:0<=d/\d<=1000)(s:PS)(h:isS T e s (⟨#[114,97,105,115,101]⟩:ByteArray)=true){a:ET}{s1:PS}(hi:EU T e d (advS s) (a,s1)):EU T e d s (eN 14 (tokS T e s).at_ nS [a],s1):=by
 have ht:=xp T e s;have hg:=xJ (tokS T e s);have hlt:=(xA h (xa (l:=[114,97,105,115,101]) (by simp))).2
 have ho:=yb 14 (tokS T e s).at_ nS [a];unfold EU at *
 simp only [yn] at *
 generalize tokS T e s=t at *
 rw [MTok.enc_eq,xh] at ht
 rw [MTok.enc_eq] at hg
 obtain ⟨b,l⟩:=a;unfold advS at hi
 rw [xP,List.map_cons,List.map_nil,xr] at ho
 rw [xr,xb,xb] at hi
 rw [xP,List.map_cons,List.map_nil,xr,xb,xb];unfold nS at *
 refine FI PM Tryz.func272 Tryz.ntmps272 [] rfl rfl ?_
 (have hWf:=w3 @xe @xd @h;repeat' (first|refine zS ?_|refine zI ?_ ?_|refine zK ht ?_|refine zK hg ?_|refine zH hi ?_|refine zH ho ?_|exact zF0|refine zD fun hb=>?_|exact zC|refine zT ?_|fail))
 all_goals rfl
theorem eun_1(hT:T.length<=10000)(d:Int)(hd:0<=d/\d<=1000)(s:PS)(n0:isS T e s (⟨#[114,97,105,115,101]⟩:ByteArray)=false)(h:isS T e s (⟨#[114,101,102]⟩:ByteArray)=true){a:ET}{s1:PS}(hi:EU T e d (advS s) (a,s1)):EU T e d s (eN 16 (tokS T e s).at_ nS [a],s1):=by
 have ht:=xp T e s;have hg:=xJ (tokS T e s);have hlt:=(xA h (xa (l:=[114,101,102]) (by simp))).2
 have ho:=yb 16 (tokS T e s).at_ nS [a];unfold EU at *
 simp only [yn] at *
 generalize tokS T e s=t at *
 rw [MTok.enc_eq,xh] at ht
 rw [MTok.enc_eq] at hg
 obtain ⟨b,l⟩:=a;unfold advS at hi
 rw [xP,List.map_cons,List.map_nil,xr] at ho
 rw [xr,xb,xb] at hi
 rw [xP,List.map_cons,List.map_nil,xr,xb,xb];unfold nS at *
 refine FI PM Tryz.func272 Tryz.ntmps272 [] rfl rfl ?_
 (have hWf:=w4 @xe @xd @n0 @h;repeat' (first|refine zS ?_|refine zI ?_ ?_|refine zK ht ?_|refine zK hg ?_|refine zH hi ?_|refine zH ho ?_|exact zF0|refine zD fun hb=>?_|exact zC|refine zT ?_|fail))
 all_goals rfl
theorem eun_2(hT:T.length<=10000)(d:Int)(hd:0<=d/\d<=1000)(s:PS)(n0:isS T e s (⟨#[114,97,105,115,101]⟩:ByteArray)=false)(n1:isS T e s (⟨#[114,101,102]⟩:ByteArray)=false)(h:isS T e s (⟨#[33]⟩:ByteArray)=true){a:ET}{s1:PS}(hi:EU T e d (advS s) (a,s1)):EU T e d s (eN 17 (tokS T e s).at_ nS [a],s1):=by
 have ht:=xp T e s;have hg:=xJ (tokS T e s);have hlt:=(xA h (xa (l:=[33]) (by simp))).2
 have ho:=yb 17 (tokS T e s).at_ nS [a];unfold EU at *
 simp only [yn] at *
 generalize tokS T e s=t at *
 rw [MTok.enc_eq,xh] at ht
 rw [MTok.enc_eq] at hg
 obtain ⟨b,l⟩:=a;unfold advS at hi
 rw [xP,List.map_cons,List.map_nil,xr] at ho
 rw [xr,xb,xb] at hi
 rw [xP,List.map_cons,List.map_nil,xr,xb,xb];unfold nS at *
 refine FI PM Tryz.func272 Tryz.ntmps272 [] rfl rfl ?_
 (have hWf:=w5 @xe @xd @n0 @n1 @h;repeat' (first|refine zS ?_|refine zI ?_ ?_|refine zK ht ?_|refine zK hg ?_|refine zH hi ?_|refine zH ho ?_|exact zF0|refine zD fun hb=>?_|exact zC|refine zT ?_|fail))
 all_goals rfl
theorem eun_3(hT:T.length<=10000)(d:Int)(hd:0<=d/\d<=1000)(s:PS)(n0:isS T e s (⟨#[114,97,105,115,101]⟩:ByteArray)=false)(n1:isS T e s (⟨#[114,101,102]⟩:ByteArray)=false)(n2:isS T e s (⟨#[33]⟩:ByteArray)=false)(h:isS T e s (⟨#[45]⟩:ByteArray)=true){a:ET}{s1:PS}(hi:EU T e d (advS s) (a,s1)):EU T e d s (eN 10 (tokS T e s).at_ (⟨#[45]⟩:ByteArray) [eN 1 (tokS T e s).at_ nS [],a],s1):=by
 have ht:=xp T e s;have hg:=xJ (tokS T e s);have hlt:=(xA h (xa (l:=[45]) (by simp))).2
 have ho:=c_l03OneM 10 1 (tokS T e s).at_ (⟨#[45]⟩:ByteArray) a;unfold EU at *
 simp only [yn] at *
 generalize tokS T e s=t at *
 rw [MTok.enc_eq,xh] at ht
 rw [MTok.enc_eq] at hg
 obtain ⟨b,l⟩:=a;unfold advS at hi
 unfold zrow at ho
 rw [xP,List.map_cons,List.map_cons,List.map_nil,xP,List.map_nil,xr] at ho
 rw [xr,xb,xb] at hi
 rw [xP,List.map_cons,List.map_cons,List.map_nil,xP,List.map_nil,xr,xb,xb];unfold nS at *
 refine FI PM Tryz.func272 Tryz.ntmps272 [] rfl rfl ?_
 (have hWf:=w6 @xe @xd @n0 @n1 @n2 @h;repeat' (first|refine zS ?_|refine zI ?_ ?_|refine zK ht ?_|refine zK hg ?_|refine zH hi ?_|refine zH ho ?_|exact zF0|refine zD fun hb=>?_|exact zC|refine zT ?_|fail))
 all_goals rfl
theorem eun_app(d:Int)(hd:0<=d/\d<=1000)(s:PS)(n0:isS T e s (⟨#[114,97,105,115,101]⟩:ByteArray)=false)(n1:isS T e s (⟨#[114,101,102]⟩:ByteArray)=false)(n2:isS T e s (⟨#[33]⟩:ByteArray)=false)(n3:isS T e s (⟨#[45]⟩:ByteArray)=false)(hi:FT 276 [.opt (rdD T e s),.s (.int .i64 d)] (fun x o=>x=.ag (eV (appS T e R s).1)/\o=[.opt (rdD T e (appS T e R s).2),.un])):EU T e d s (appS T e R s):=by
 have ht:=xp T e s;have hg:=xJ (tokS T e s);unfold EU at *
 rcases hq:appS T e R s with ⟨⟨b,l⟩,s1⟩
 rw [hq] at hi
 simp only [yn] at *
 generalize tokS T e s=t at *
 rw [MTok.enc_eq,xh] at ht
 rw [MTok.enc_eq] at hg
 rw [xr,xb,xb] at hi
 rw [xr,xb,xb];refine FI PM Tryz.func272 Tryz.ntmps272 [] rfl rfl ?_
 (have hWf:=w6 @xe @xd @n0 @n1 @n2 @n3;repeat' (first|refine zS ?_|refine zI ?_ ?_|refine zK ht ?_|refine zK hg ?_|refine zH hi ?_|exact zF0|refine zD fun hb=>?_|exact zC|refine zT ?_|fail))
 all_goals rfl
theorem c_l03Un(hT:T.length<=10000)(hRb:∀ s,EB T s (R s))(d:Int)(hd:0<=d/\d<=1000)(hR:CExp T e R (d+1)):∀ (n:Nat) (s:PS),T.length - s.i<n->WF T s->EU T e d s (unF T e R n s):=fun n=>by
 induction n with
 | zero=>intro s h;omega
 | succ n ih=>
  intro s hn hs;unfold unF
  by_cases h0:isS T e s (⟨#[114,97,105,115,101]⟩:ByteArray)=true
  .rw [if_pos h0]
   have hlt:=(xA h0 (xa (l:=[114,97,105,115,101]) (by simp))).2
   have hi:=ih (advS s) (by show T.length - (s.i+1)<n;omega) ((Mo.advS h0 (xa (l:=[114,97,105,115,101]) (by simp))).wf hs)
   rcases hq:unF T e R n (advS s) with ⟨a,s1⟩
   rw [hq] at hi
   exact eun_0 hT d hd s h0 hi
  rw [if_neg h0];have n0:=Bool.eq_false_iff.2 h0
  by_cases h1:isS T e s (⟨#[114,101,102]⟩:ByteArray)=true
  .rw [if_pos h1]
   have hlt:=(xA h1 (xa (l:=[114,101,102]) (by simp))).2
   have hi:=ih (advS s) (by show T.length - (s.i+1)<n;omega) ((Mo.advS h1 (xa (l:=[114,101,102]) (by simp))).wf hs)
   rcases hq:unF T e R n (advS s) with ⟨a,s1⟩
   rw [hq] at hi
   exact eun_1 hT d hd s n0 h1 hi
  rw [if_neg h1];have n1:=Bool.eq_false_iff.2 h1
  by_cases h2:isS T e s (⟨#[33]⟩:ByteArray)=true
  .rw [if_pos h2]
   have hlt:=(xA h2 (xa (l:=[33]) (by simp))).2
   have hi:=ih (advS s) (by show T.length - (s.i+1)<n;omega) ((Mo.advS h2 (xa (l:=[33]) (by simp))).wf hs)
   rcases hq:unF T e R n (advS s) with ⟨a,s1⟩
   rw [hq] at hi
   exact eun_2 hT d hd s n0 n1 h2 hi
  rw [if_neg h2];have n2:=Bool.eq_false_iff.2 h2
  by_cases h3:isS T e s (⟨#[45]⟩:ByteArray)=true
  .rw [if_pos h3]
   have hlt:=(xA h3 (xa (l:=[45]) (by simp))).2
   have hi:=ih (advS s) (by show T.length - (s.i+1)<n;omega) ((Mo.advS h3 (xa (l:=[45]) (by simp))).wf hs)
   rcases hq:unF T e R n (advS s) with ⟨a,s1⟩
   rw [hq] at hi
   exact eun_3 hT d hd s n0 n1 n2 h3 hi
  rw [if_neg h3];have n3:=Bool.eq_false_iff.2 h3;exact eun_app d hd s n0 n1 n2 n3 (c_l03App hT hRb d hd hR s hs)
end
end
end Go.Proofs.YtgcdbmcoendcdaaGreat
