/- Parts of the proof. -/
import Derived.Test.YtgcdbmcoendcdaaGreatC7
set_option maxRecDepth 100000
set_option maxHeartbeats 8000000
set_option linter.unusedVariables false
set_option linter.unusedSimpArgs false
namespace Go.Proofs.YtgcdbmcoendcdaaGreat
section
open Go.RowKit Arb
section
variable {T:List MTok} {e:Int} {R:PS->ET×PS}
theorem left_go{L:List ByteArray}{Q:PS->ET×PS}{n:Nat}{a:ET}{s:PS}(h:s.code=0/\inT (tokS T e s) L=true):zd T e L Q (n+1) a s=zd T e L Q n (eN 10 (tokS T e s).at_ (tokS T e s).s [a,(Q (advS s)).1]) (Q (advS s)).2:=by
 conv=>lhs;unfold zd
 rw [if_pos h]
theorem Qj{L:List ByteArray}{Q:PS->ET×PS}{n:Nat}{a:ET}{s:PS}(h:¬ (s.code=0/\inT (tokS T e s) L=true)):zd T e L Q n a s=(a,s):=by
 cases n with
 | zero=>rfl
 | succ n=>unfold zd;rw [if_neg h]
def EL(T:List MTok)(e:Int)(d lv:Int)(s:PS)(r:ET×PS):Prop:=FT 265 [.opt (rdD T e s),.s (.int .i64 d),.s (.int .i64 lv)] (fun x o=>x=.ag (eV r.1)/\o=[.opt (rdD T e r.2),.un,.un])
theorem UP(hT:T.length<=10000)(hRb:∀ s,EB T s (R s))(d:Int)(hd:0<=d/\d<=1000)(hR:CExp T e R (d+1))(s:PS)(hs:WF T s):EL T e d 0 s (wj T e R s):=by
 have ha:=c_l03Un hT hRb d hd hR (T.length+1) s (by omega) hs
 have m0:=(un_b hRb (e:=e) (T.length+1) s).1;unfold EL
 conv=>rhs;unfold wj
 unfold EU at ha
 rcases hq:unF T e R (T.length+1) s with ⟨a,s1⟩
 rw [hq] at ha m0
 simp only at ha m0 ⊢
 have w0:=m0.wf hs;obtain ⟨rr,hrr⟩:∃ r,zd T e [(⟨#[42]⟩:ByteArray),(⟨#[47]⟩:ByteArray),(⟨#[37]⟩:ByteArray)] (unF T e R (T.length+1)) (T.length+1) a s1=r:=⟨_,rfl⟩;rw [hrr];obtain ⟨b,l⟩:=a;rw [xr,xb,xb] at ha
 rw [xb];clear hq;refine FI PM Tryz.func265 Tryz.ntmps265 [] rfl rfl ?_
 (have hWf:=w2 @xe @xd;repeat' (first|refine zS ?_|refine zI ?_ ?_|refine zH ha ?_|exact zF0|refine zD fun hb=>?_|exact zC|refine zT ?_|fail))
 refine xn (fun n σ=>∃ (j p q:Nat) (b:EI) (l:List ET) (s':PS),((p=6021/\q=7021)\/(p=6057/\q=7057))/\n=T.length - s'.i/\T.length - s'.i<j/\WF T s'/\zd T e [(⟨#[42]⟩:ByteArray),(⟨#[47]⟩:ByteArray),(⟨#[37]⟩:ByteArray)] (unF T e R (T.length+1)) j (.mk b l) s'=rr/\σ.t 0=.bx 900000 0/\σ.b 900000=some (.box [.sl 4 (T.map MTok.enc),.s (.int .i64 s'.i),.s (.int .i64 e),.s (.int .i64 s'.code),.s (.int .i64 s'.at_),.sl 1 (s'.vars.map iE),.bs 7900000 1 s'.seen.length])/\σ.b 7900000=some (.arr 9 1 (s'.seen.map stE))/\σ.t 1=.s (.int .i64 d)/\σ.t 2=.s (.int .i64 0)/\σ.t 6=.bx 6 0/\σ.b 6=some (.box [.s (.int .i64 0),.s (.int .i64 0),.s (.int .i64 0),.s (.string ⟨#[]⟩),.nil,.nil,.nil])/\σ.t 7=.bs 11 1 3/\σ.b 11=some (.arr 9 1 [[.s (.string (⟨#[42]⟩:ByteArray))],[.s (.string (⟨#[47]⟩:ByteArray))],[.s (.string (⟨#[37]⟩:ByteArray))]])/\σ.t 8=.bx 8 0/\σ.b 8=some (.box [.s (.int .i64 b.kind),.s (.int .i64 b.at_),.s (.int .i64 b.n),.s (.string b.s),.nil,.bs p 1 b.pats.length,.bs q 7 l.length])/\σ.b p=some (.arr 89 1 (b.pats.map MPat.own))/\σ.b q=some (.arr 58 7 (l.map eV))) (T.length - s1.i) ⟨T.length+1,6021,7021,b,l,s1,.inl ⟨rfl,rfl⟩,rfl,by omega,w0,hrr,?_⟩ ?_
 .simp only [go_sem,simprocAttr]
  done
 .rintro m σ ⟨j,p,q,b,l,s',hnm,rfl,hj,hw,hap,h0,b9,b7,h1,h2,h6,b6,ht7,bs,h8,b8,bp,bq⟩ K' hK
  have hin:=vg T e s' [(⟨#[42]⟩:ByteArray),(⟨#[47]⟩:ByteArray),(⟨#[37]⟩:ByteArray)] (by decide)
  simp only [List.map_cons,List.map_nil,xH] at hin
  rw [xh] at hin
  by_cases hc:s'.code=0/\inT (tokS T e s') [(⟨#[42]⟩:ByteArray),(⟨#[47]⟩:ByteArray),(⟨#[37]⟩:ByteArray)]=true
  .obtain ⟨j,rfl⟩:∃ q,j=q+1:=⟨j - 1,by omega⟩
   have hlt:=(xS (wX (by simp only [List.mem_cons,List.not_mem_nil,or_false,forall_eq_or_imp,forall_eq];exact ⟨xa (l:=[42]) (by simp),xa (l:=[47]) (by simp),xa (l:=[37]) (by simp)⟩) hc.2)).2
   have f0:=kT hc.1;have ht':=xp T e s';have wa:WF T (advS s'):=(Mo.adv hlt).wf hw;have hia:=xK s';have ha':=c_l03Un hT hRb d hd hR (T.length+1) (advS s') (by omega) wa
   have m1:=(un_b hRb (e:=e) (T.length+1) (advS s')).1;have w1:=m1.wf wa;rw [left_go hc] at hap
   rw [hc.2] at hin
   unfold EU at ha'
   rcases hq:unF T e R (T.length+1) (advS s') with ⟨⟨c,r⟩,s2⟩
   rw [hq] at ha' hap m1 w1
   simp only at ha' hap m1 w1
   have hf0:=m1.1;have ho:=yb 10 (tokS T e s').at_ (tokS T e s').s [.mk b l,.mk c r];generalize tokS T e s'=u at *
   rw [MTok.enc_eq,xh] at ht'
   clear hq wa m1;rw [hia] at hf0
   unfold advS at ha'
   rw [xr,xb,xb] at ha'
   rw [xP,List.map_cons,List.map_cons,List.map_nil,xr,xr] at ho
   rcases hnm with ⟨rfl,rfl⟩|⟨rfl,rfl⟩
   all_goals
    (have hWf:=w10 @h0 @b9 @b7 @h1 @h2 @h6 @b6 @ht7 @bs (ai @h8<|ai @b8<|ai @bp<|ai @bq<|ai @xe<|ai @xd<|@f0);repeat' (first|refine zS ?_|refine zI ?_ ?_|refine zK hin ?_|refine zK (ht') ?_|refine zH ha' ?_|refine zH ho ?_|exact zF0|refine zD fun hb=>?_|exact zC|refine zT ?_|fail))
    refine hK (T.length - s2.i) _ (by omega) ⟨j,6057,7057,⟨10,u.at_,0,u.s,[]⟩,[.mk b l,.mk c r],s2,.inr ⟨rfl,rfl⟩,rfl,by omega,w1,hap,?_⟩
    simp only [go_sem,simprocAttr,h0,b9,b7,h1,h2,h6,b6,ht7,bs,h8,b8,bp,bq,xe,xd,List.map_cons,List.map_nil,xr]
    done
  .rw [Qj hc] at hap
   subst hap;simp only;rw [xr,xb];rcases hnm with ⟨rfl,rfl⟩|⟨rfl,rfl⟩
   all_goals
    rcases Bool.eq_false_or_eq_true (s'.code==0) with f0|f0
    .have hbf:inT (tokS T e s') [(⟨#[42]⟩:ByteArray),(⟨#[47]⟩:ByteArray),(⟨#[37]⟩:ByteArray)]=false:=by
      cases z:inT (tokS T e s') [(⟨#[42]⟩:ByteArray),(⟨#[47]⟩:ByteArray),(⟨#[37]⟩:ByteArray)] with
      | false=>rfl
      | true=>exact absurd ⟨by simpa using f0,z⟩ hc
     rw [hbf] at hin
     (have hWf:=w10 @h0 @b9 @b7 @h1 @h2 @h6 @b6 @ht7 @bs (ai @h8<|ai @b8<|ai @bp<|ai @bq<|ai @xe<|ai @xd<|@f0);repeat' (first|refine zS ?_|refine zI ?_ ?_|refine zK hin ?_|exact zF0|refine zD fun hb=>?_|exact zC|refine zT ?_|fail))
     done
    ·(have hWf:=w10 @h0 @b9 @b7 @h1 @h2 @h6 @b6 @ht7 @bs (ai @h8<|ai @b8<|ai @bp<|ai @bq<|ai @xe<|ai @xd<|@f0);repeat' (first|refine zS ?_|refine zI ?_ ?_|refine zK hin ?_|exact zF0|refine zD fun hb=>?_|exact zC|refine zT ?_|fail))
     done
theorem xbr(hT:T.length<=10000)(hRb:∀ s,EB T s (R s))(d:Int)(hd:0<=d/\d<=1000)(hR:CExp T e R (d+1))(s:PS)(hs:WF T s):EL T e d 1 s (uu T e R s):=by
 have ha:=UP hT hRb d hd hR s hs;have m0:=(XW hRb (e:=e) s).1;unfold EL
 conv=>rhs;unfold uu
 unfold EL at ha
 rcases hq:wj T e R s with ⟨a,s1⟩
 rw [hq] at ha m0
 simp only at ha m0 ⊢
 have w0:=m0.wf hs;obtain ⟨rr,hrr⟩:∃ r,zd T e [(⟨#[43]⟩:ByteArray),(⟨#[45]⟩:ByteArray),(⟨#[94]⟩:ByteArray)] (wj T e R) (T.length+1) a s1=r:=⟨_,rfl⟩;rw [hrr];obtain ⟨b,l⟩:=a;rw [xr,xb,xb] at ha
 rw [xb];clear hq;refine FI PM Tryz.func265 Tryz.ntmps265 [] rfl rfl ?_
 (have hWf:=w2 @xe @xd;repeat' (first|refine zS ?_|refine zI ?_ ?_|refine zH ha ?_|exact zF0|refine zD fun hb=>?_|exact zC|refine zT ?_|fail))
 refine xn (fun n σ=>∃ (j p q:Nat) (b:EI) (l:List ET) (s':PS),((p=6018/\q=7018)\/(p=6057/\q=7057))/\n=T.length - s'.i/\T.length - s'.i<j/\WF T s'/\zd T e [(⟨#[43]⟩:ByteArray),(⟨#[45]⟩:ByteArray),(⟨#[94]⟩:ByteArray)] (wj T e R) j (.mk b l) s'=rr/\σ.t 0=.bx 900000 0/\σ.b 900000=some (.box [.sl 4 (T.map MTok.enc),.s (.int .i64 s'.i),.s (.int .i64 e),.s (.int .i64 s'.code),.s (.int .i64 s'.at_),.sl 1 (s'.vars.map iE),.bs 7900000 1 s'.seen.length])/\σ.b 7900000=some (.arr 9 1 (s'.seen.map stE))/\σ.t 1=.s (.int .i64 d)/\σ.t 2=.s (.int .i64 1)/\σ.t 6=.bx 6 0/\σ.b 6=some (.box [.s (.int .i64 0),.s (.int .i64 0),.s (.int .i64 0),.s (.string ⟨#[]⟩),.nil,.nil,.nil])/\σ.t 7=.bs 15 1 3/\σ.b 15=some (.arr 9 1 [[.s (.string (⟨#[43]⟩:ByteArray))],[.s (.string (⟨#[45]⟩:ByteArray))],[.s (.string (⟨#[94]⟩:ByteArray))]])/\σ.t 8=.bx 8 0/\σ.b 8=some (.box [.s (.int .i64 b.kind),.s (.int .i64 b.at_),.s (.int .i64 b.n),.s (.string b.s),.nil,.bs p 1 b.pats.length,.bs q 7 l.length])/\σ.b p=some (.arr 89 1 (b.pats.map MPat.own))/\σ.b q=some (.arr 58 7 (l.map eV))) (T.length - s1.i) ⟨T.length+1,6018,7018,b,l,s1,.inl ⟨rfl,rfl⟩,rfl,by omega,w0,hrr,?_⟩ ?_
 .simp only [go_sem,simprocAttr]
  done
 .rintro m σ ⟨j,p,q,b,l,s',hnm,rfl,hj,hw,hap,h0,b9,b7,h1,h2,h6,b6,ht7,bs,h8,b8,bp,bq⟩ K' hK
  have hin:=vg T e s' [(⟨#[43]⟩:ByteArray),(⟨#[45]⟩:ByteArray),(⟨#[94]⟩:ByteArray)] (by decide)
  simp only [List.map_cons,List.map_nil,xH] at hin
  rw [xh] at hin
  by_cases hc:s'.code=0/\inT (tokS T e s') [(⟨#[43]⟩:ByteArray),(⟨#[45]⟩:ByteArray),(⟨#[94]⟩:ByteArray)]=true
  .obtain ⟨j,rfl⟩:∃ q,j=q+1:=⟨j - 1,by omega⟩
   have hlt:=(xS (wX (by simp only [List.mem_cons,List.not_mem_nil,or_false,forall_eq_or_imp,forall_eq];exact ⟨xa (l:=[43]) (by simp),xa (l:=[45]) (by simp),xa (l:=[94]) (by simp)⟩) hc.2)).2
   have f0:=kT hc.1;have ht':=xp T e s';have wa:WF T (advS s'):=(Mo.adv hlt).wf hw;have hia:=xK s';have ha':=UP hT hRb d hd hR (advS s') wa;have m1:=(XW hRb (e:=e) (advS s')).1;have w1:=m1.wf wa;rw [left_go hc] at hap
   rw [hc.2] at hin
   unfold EL at ha'
   rcases hq:wj T e R (advS s') with ⟨⟨c,r⟩,s2⟩
   rw [hq] at ha' hap m1 w1
   simp only at ha' hap m1 w1
   have hf0:=m1.1;have ho:=yb 10 (tokS T e s').at_ (tokS T e s').s [.mk b l,.mk c r];generalize tokS T e s'=u at *
   rw [MTok.enc_eq,xh] at ht'
   clear hq wa m1;rw [hia] at hf0
   unfold advS at ha'
   rw [xr,xb,xb] at ha'
   rw [xP,List.map_cons,List.map_cons,List.map_nil,xr,xr] at ho
   rcases hnm with ⟨rfl,rfl⟩|⟨rfl,rfl⟩
   all_goals
    (have hWf:=w10 @h0 @b9 @b7 @h1 @h2 @h6 @b6 @ht7 @bs (ai @h8<|ai @b8<|ai @bp<|ai @bq<|ai @xe<|ai @xd<|@f0);repeat' (first|refine zS ?_|refine zI ?_ ?_|refine zK hin ?_|refine zK (ht') ?_|refine zH ha' ?_|refine zH ho ?_|exact zF0|refine zD fun hb=>?_|exact zC|refine zT ?_|fail))
    refine hK (T.length - s2.i) _ (by omega) ⟨j,6057,7057,⟨10,u.at_,0,u.s,[]⟩,[.mk b l,.mk c r],s2,.inr ⟨rfl,rfl⟩,rfl,by omega,w1,hap,?_⟩
    simp only [go_sem,simprocAttr,h0,b9,b7,h1,h2,h6,b6,ht7,bs,h8,b8,bp,bq,xe,xd,List.map_cons,List.map_nil,xr]
    done
  .rw [Qj hc] at hap
   subst hap;simp only;rw [xr,xb];rcases hnm with ⟨rfl,rfl⟩|⟨rfl,rfl⟩
   all_goals
    rcases Bool.eq_false_or_eq_true (s'.code==0) with f0|f0
    .have hbf:inT (tokS T e s') [(⟨#[43]⟩:ByteArray),(⟨#[45]⟩:ByteArray),(⟨#[94]⟩:ByteArray)]=false:=by
      cases z:inT (tokS T e s') [(⟨#[43]⟩:ByteArray),(⟨#[45]⟩:ByteArray),(⟨#[94]⟩:ByteArray)] with
      | false=>rfl
      | true=>exact absurd ⟨by simpa using f0,z⟩ hc
     rw [hbf] at hin
     (have hWf:=w10 @h0 @b9 @b7 @h1 @h2 @h6 @b6 @ht7 @bs (ai @h8<|ai @b8<|ai @bp<|ai @bq<|ai @xe<|ai @xd<|@f0);repeat' (first|refine zS ?_|refine zI ?_ ?_|refine zK hin ?_|exact zF0|refine zD fun hb=>?_|exact zC|refine zT ?_|fail))
     done
    ·(have hWf:=w10 @h0 @b9 @b7 @h1 @h2 @h6 @b6 @ht7 @bs (ai @h8<|ai @b8<|ai @bp<|ai @bq<|ai @xe<|ai @xd<|@f0);repeat' (first|refine zS ?_|refine zI ?_ ?_|refine zK hin ?_|exact zF0|refine zD fun hb=>?_|exact zC|refine zT ?_|fail))
     done
end
section
variable {T:List MTok} {e:Int} {R:PS->ET×PS}
def EC(T:List MTok)(e:Int)(d:Int)(s:PS)(r:ET×PS):Prop:=FT 247 [.opt (rdD T e s),.s (.int .i64 d)] (fun x o=>x=.ag (eV r.1)/\o=[.opt (rdD T e r.2),.un])
theorem econs_no(d:Int)(s:PS){a:ET}{s1:PS}(ha:EL T e d 1 s (a,s1))(h:isS T e s1 (⟨#[58,58]⟩:ByteArray)=false):EC T e d s (a,s1):=by
 have his:=xD T e s1 (⟨#[58,58]⟩:ByteArray);rw [h] at his
 unfold EL at ha
 unfold EC;obtain ⟨b,l⟩:=a;rw [xh] at his
 rw [xr,xb,xb] at ha
 rw [xr,xb,xb];refine FI PM Tryz.func247 Tryz.ntmps247 [] rfl rfl ?_
 (have hWf:=w2 @xe @xd;repeat' (first|refine zS ?_|refine zI ?_ ?_|refine zH ha ?_|refine zK his ?_|exact zF0|refine zD fun hb=>?_|exact zC|refine zT ?_|fail))
 all_goals rfl
theorem econs_yes(hT:T.length<=10000)(d:Int)(s:PS){a:ET}{s1:PS}(ha:EL T e d 1 s (a,s1))(h:isS T e s1 (⟨#[58,58]⟩:ByteArray)=true){b:ET}{s2:PS}(hi:EC T e d (advS s1) (b,s2)):EC T e d s (consT (tokS T e s1).at_ a b,s2):=by
 have his:=xD T e s1 (⟨#[58,58]⟩:ByteArray);have ht:=xp T e s1;have hlt:=(xA h (xa (l:=[58,58]) (by simp))).2
 have ho:=yb 11 (tokS T e s1).at_ nS [a,b];have ho2:=yb 4 (tokS T e s1).at_ (⟨#[58,58]⟩:ByteArray) [eN 11 (tokS T e s1).at_ nS [a,b]];rw [h] at his
 unfold EL at ha
 unfold EC at *
 unfold consT;generalize tokS T e s1=t at *
 obtain ⟨a,l⟩:=a;obtain ⟨b,r⟩:=b;unfold advS at hi
 rw [MTok.enc_eq,xh] at ht
 rw [xh] at his
 rw [xr,xb,xb] at ha hi
 unfold nS at *
 simp only [xP,List.map_cons,List.map_nil,xr] at ho ho2 ⊢
 rw [xb,xb];clear h;refine FI PM Tryz.func247 Tryz.ntmps247 [] rfl rfl ?_
 (have hWf:=w2 @xe @xd;repeat' (first|refine zS ?_|refine zI ?_ ?_|refine zH ha ?_|refine zK his ?_|refine zK ht ?_|refine zH hi ?_|refine zH ho ?_|refine zH ho2 ?_|exact zF0|refine zD fun hb=>?_|exact zC|refine zT ?_|fail))
 all_goals rfl
theorem VX(hT:T.length<=10000)(hRb:∀ s,EB T s (R s))(d:Int)(hd:0<=d/\d<=1000)(hR:CExp T e R (d+1)):∀ (n:Nat) (s:PS),T.length - s.i<n->WF T s->EC T e d s (wt T e R n s):=fun n=>by
 induction n with
 | zero=>intro s h;omega
 | succ n ih=>
  intro s hn hs;have ha:=xbr hT hRb d hd hR s hs;have m:=(Vw hRb (e:=e) s).1;unfold wt;rcases hq:uu T e R s with ⟨a,s1⟩
  rw [hq] at ha m
  simp only;have hge:=m.1
  by_cases h:isS T e s1 (⟨#[58,58]⟩:ByteArray)=true
  .rw [if_pos h]
   have hlt:=(xA h (xa (l:=[58,58]) (by simp))).2
   have hi:=ih (advS s1) (by show T.length - (s1.i+1)<n;simp only at hge;omega) ((Mo.advS h (xa (l:=[58,58]) (by simp))).wf (m.wf hs))
   rcases hq2:wt T e R n (advS s1) with ⟨b,s2⟩
   rw [hq2] at hi
   exact econs_yes hT d s ha h hi
  .rw [if_neg h]
   exact econs_no d s ha (Bool.eq_false_iff.2 h)
def ES(T:List MTok)(e:Int)(d:Int)(s:PS)(r:ET×PS):Prop:=FT 206 [.opt (rdD T e s),.s (.int .i64 d)] (fun x o=>x=.ag (eV r.1)/\o=[.opt (rdD T e r.2),.un])
theorem eset_00(hT:T.length<=10000)(d:Int)(s:PS){a:ET}{s1:PS}(ha:EC T e d s (a,s1))(hc:inT (tokS T e s1) [(⟨#[61]⟩:ByteArray),(⟨#[60,62]⟩:ByteArray),(⟨#[60]⟩:ByteArray),(⟨#[60,61]⟩:ByteArray)]=false)(h:isS T e s1 (⟨#[58,61]⟩:ByteArray)=false):ES T e d s (a,s1):=by
 have hin:=vg T e s1 [(⟨#[61]⟩:ByteArray),(⟨#[60,62]⟩:ByteArray),(⟨#[60]⟩:ByteArray),(⟨#[60,61]⟩:ByteArray)] (by decide)
 simp only [List.map_cons,List.map_nil,xH] at hin
 have his:=xD T e s1 (⟨#[58,61]⟩:ByteArray);rw [h] at his
 rw [hc] at hin
 unfold ES EC at *
 clear h hc;obtain ⟨a,l⟩:=a;rw [xh] at hin his
 rw [xr,xb,xb] at ha
 simp only [xP,List.map_cons,List.map_nil,xr] at ⊢
 rw [xb,xb];refine FI PM Tryz.func206 Tryz.ntmps206 [] rfl rfl ?_
 (have hWf:=w2 @xe @xd;repeat' (first|refine zS ?_|refine zI ?_ ?_|refine zH ha ?_|refine zK hin ?_|refine zK his ?_|exact zF0|refine zD fun hb=>?_|exact zC|refine zT ?_|fail))
 all_goals rfl
theorem eset_01(hT:T.length<=10000)(d:Int)(s:PS){a:ET}{s1:PS}(ha:EC T e d s (a,s1))(hc:inT (tokS T e s1) [(⟨#[61]⟩:ByteArray),(⟨#[60,62]⟩:ByteArray),(⟨#[60]⟩:ByteArray),(⟨#[60,61]⟩:ByteArray)]=false)(h:isS T e s1 (⟨#[58,61]⟩:ByteArray)=true){c:ET}{s3:PS}(hi:ES T e d (advS s1) (c,s3)):ES T e d s (eN 18 (tokS T e s1).at_ nS [a,c],s3):=by
 have hin:=vg T e s1 [(⟨#[61]⟩:ByteArray),(⟨#[60,62]⟩:ByteArray),(⟨#[60]⟩:ByteArray),(⟨#[60,61]⟩:ByteArray)] (by decide)
 simp only [List.map_cons,List.map_nil,xH] at hin
 have his:=xD T e s1 (⟨#[58,61]⟩:ByteArray);rw [h] at his
 rw [hc] at hin
 have hlt:=(xA h (xa (l:=[58,61]) (by simp))).2
 have ht2:=xp T e s1;have ho2:=yb 18 (tokS T e s1).at_ nS [a,c];unfold ES EC at *
 clear h hc;generalize tokS T e s1=u at *
 obtain ⟨a,l⟩:=a;obtain ⟨c,q⟩:=c;unfold advS at hi
 rw [MTok.enc_eq,xh] at ht2
 rw [xh] at hin his
 rw [xr,xb,xb] at ha hi
 unfold nS at *
 simp only [xP,List.map_cons,List.map_nil,xr] at ho2 ⊢
 rw [xb,xb];refine FI PM Tryz.func206 Tryz.ntmps206 [] rfl rfl ?_
 (have hWf:=w2 @xe @xd;repeat' (first|refine zS ?_|refine zI ?_ ?_|refine zH ha ?_|refine zK hin ?_|refine zK his ?_|refine zK ht2 ?_|refine zH hi ?_|refine zH ho2 ?_|exact zF0|refine zD fun hb=>?_|exact zC|refine zT ?_|fail))
 all_goals rfl
theorem eset_10(hT:T.length<=10000)(d:Int)(s:PS){a:ET}{s1:PS}(ha:EC T e d s (a,s1))(hc:inT (tokS T e s1) [(⟨#[61]⟩:ByteArray),(⟨#[60,62]⟩:ByteArray),(⟨#[60]⟩:ByteArray),(⟨#[60,61]⟩:ByteArray)]=true)(hl1:s1.i<T.length){b:ET}{s2:PS}(hb:EC T e d (advS s1) (b,s2))(h:isS T e s2 (⟨#[58,61]⟩:ByteArray)=false):ES T e d s ((eN 10 (tokS T e s1).at_ (tokS T e s1).s [a,b]),s2):=by
 have hin:=vg T e s1 [(⟨#[61]⟩:ByteArray),(⟨#[60,62]⟩:ByteArray),(⟨#[60]⟩:ByteArray),(⟨#[60,61]⟩:ByteArray)] (by decide)
 simp only [List.map_cons,List.map_nil,xH] at hin
 have his:=xD T e s2 (⟨#[58,61]⟩:ByteArray);rw [h] at his
 rw [hc] at hin
 have ht:=xp T e s1;have ho:=yb 10 (tokS T e s1).at_ (tokS T e s1).s [a,b];unfold ES EC at *
 clear h hc;generalize tokS T e s1=t at *
 obtain ⟨a,l⟩:=a;obtain ⟨b,r⟩:=b;unfold advS at hb
 rw [MTok.enc_eq,xh] at ht
 rw [xh] at hin his
 rw [xr,xb,xb] at ha hb
 simp only [xP,List.map_cons,List.map_nil,xr] at ho ⊢
 rw [xb,xb];refine FI PM Tryz.func206 Tryz.ntmps206 [] rfl rfl ?_
 (have hWf:=w2 @xe @xd;repeat' (first|refine zS ?_|refine zI ?_ ?_|refine zH ha ?_|refine zK hin ?_|refine zK his ?_|refine zK ht ?_|refine zH hb ?_|refine zH ho ?_|exact zF0|refine zD fun hb=>?_|exact zC|refine zT ?_|fail))
 all_goals rfl
theorem eset_11(hT:T.length<=10000)(d:Int)(s:PS){a:ET}{s1:PS}(ha:EC T e d s (a,s1))(hc:inT (tokS T e s1) [(⟨#[61]⟩:ByteArray),(⟨#[60,62]⟩:ByteArray),(⟨#[60]⟩:ByteArray),(⟨#[60,61]⟩:ByteArray)]=true)(hl1:s1.i<T.length){b:ET}{s2:PS}(hb:EC T e d (advS s1) (b,s2))(h:isS T e s2 (⟨#[58,61]⟩:ByteArray)=true){c:ET}{s3:PS}(hi:ES T e d (advS s2) (c,s3)):ES T e d s (eN 18 (tokS T e s2).at_ nS [(eN 10 (tokS T e s1).at_ (tokS T e s1).s [a,b]),c],s3):=by
 have hin:=vg T e s1 [(⟨#[61]⟩:ByteArray),(⟨#[60,62]⟩:ByteArray),(⟨#[60]⟩:ByteArray),(⟨#[60,61]⟩:ByteArray)] (by decide)
 simp only [List.map_cons,List.map_nil,xH] at hin
 have his:=xD T e s2 (⟨#[58,61]⟩:ByteArray);rw [h] at his
 rw [hc] at hin
 have ht:=xp T e s1;have ho:=yb 10 (tokS T e s1).at_ (tokS T e s1).s [a,b];have hlt:=(xA h (xa (l:=[58,61]) (by simp))).2
 have ht2:=xp T e s2;have ho2:=yb 18 (tokS T e s2).at_ nS [(eN 10 (tokS T e s1).at_ (tokS T e s1).s [a,b]),c];unfold ES EC at *
 clear h hc;generalize tokS T e s1=t at *
 generalize tokS T e s2=u at *
 obtain ⟨a,l⟩:=a;obtain ⟨b,r⟩:=b;obtain ⟨c,q⟩:=c;unfold advS at hb hi
 rw [MTok.enc_eq,xh] at ht
 rw [MTok.enc_eq,xh] at ht2
 rw [xh] at hin his
 rw [xr,xb,xb] at ha hb hi
 unfold nS at *
 simp only [xP,List.map_cons,List.map_nil,xr] at ho ho2 ⊢
 rw [xb,xb];refine FI PM Tryz.func206 Tryz.ntmps206 [] rfl rfl ?_
 (have hWf:=w2 @xe @xd;repeat' (first|refine zS ?_|refine zI ?_ ?_|refine zH ha ?_|refine zK hin ?_|refine zK his ?_|refine zK ht ?_|refine zH hb ?_|refine zH ho ?_|refine zK ht2 ?_|refine zH hi ?_|refine zH ho2 ?_|exact zF0|refine zD fun hb=>?_|exact zC|refine zT ?_|fail))
 all_goals rfl
theorem c_l03Set(hT:T.length<=10000)(hRb:∀ s,EB T s (R s))(d:Int)(hd:0<=d/\d<=1000)(hR:CExp T e R (d+1)):∀ (n:Nat) (s:PS),T.length - s.i<n->WF T s->ES T e d s (setF T e R n s):=fun n=>by
 induction n with
 | zero=>intro s h;omega
 | succ n ih=>
  intro s hn hs;have ha:=VX hT hRb d hd hR (T.length+1) s (by omega) hs
  have m:=(ZN hRb (e:=e) (T.length+1) s).1;unfold setF cmpS;rcases hq:wt T e R (T.length+1) s with ⟨a,s1⟩
  rw [hq] at ha m
  simp only;have hge:=m.1;simp only at hge
  have w1:=m.wf hs
  by_cases hc:inT (tokS T e s1) [(⟨#[61]⟩:ByteArray),(⟨#[60,62]⟩:ByteArray),(⟨#[60]⟩:ByteArray),(⟨#[60,61]⟩:ByteArray)]=true
  .rw [if_pos hc]
   have hl1:=(xS (wX (by simp only [List.mem_cons,List.not_mem_nil,or_false,forall_eq_or_imp,forall_eq];exact ⟨xa (l:=[61]) (by simp),xa (l:=[60,62]) (by simp),xa (l:=[60]) (by simp),xa (l:=[60,61]) (by simp)⟩) hc)).2
   have wa:WF T (advS s1):=(Mo.adv hl1).wf w1;have hb:=VX hT hRb d hd hR (T.length+1) (advS s1) (by omega) wa
   have m2:=(ZN hRb (e:=e) (T.length+1) (advS s1)).1;rcases hq2:wt T e R (T.length+1) (advS s1) with ⟨b,s2⟩
   rw [hq2] at hb m2
   simp only;have hge2:=m2.1;rw [xK] at hge2
   simp only at hge2
   by_cases h:isS T e s2 (⟨#[58,61]⟩:ByteArray)=true
   .rw [if_pos h]
    have hlt:=(xA h (xa (l:=[58,61]) (by simp))).2
    have hi:=ih (advS s2) (by show T.length - (s2.i+1)<n;omega) ((Mo.advS h (xa (l:=[58,61]) (by simp))).wf (m2.wf wa))
    rcases hq3:setF T e R n (advS s2) with ⟨c,s3⟩
    rw [hq3] at hi
    exact eset_11 hT d s ha hc hl1 hb h hi
   .rw [if_neg h]
    exact eset_10 hT d s ha hc hl1 hb (Bool.eq_false_iff.2 h)
  .rw [if_neg hc]
   have hcf:=Bool.eq_false_iff.2 hc;simp only
   by_cases h:isS T e s1 (⟨#[58,61]⟩:ByteArray)=true
   .rw [if_pos h]
    have hlt:=(xA h (xa (l:=[58,61]) (by simp))).2
    have hi:=ih (advS s1) (by show T.length - (s1.i+1)<n;omega) ((Mo.advS h (xa (l:=[58,61]) (by simp))).wf w1)
    rcases hq3:setF T e R n (advS s1) with ⟨c,s3⟩
    rw [hq3] at hi
    exact eset_01 hT d s ha hcf h hi
   .rw [if_neg h]
    exact eset_00 hT d s ha hcf (Bool.eq_false_iff.2 h)
end
end
section
attribute [local go_sem] List.length_append List.map_append List.map_cons List.map_nil
open Go.RowKit Arb
theorem z4(l:List PT):xU (l.map pV)=l.map pF:=by
 rw [za,List.map_map];exact List.map_congr_left fun x _=>pV_frz x
section
variable {T:List MTok} {e:Int} {R:PS->ET×PS}
theorem arms_go{n:Nat}{qs:List MPat}{l:List ET}{s:PS}(h:s.code=0){p:PT}{s1:PS}(h1:patF T e 101 (wh s)=(p,s1)){b:ET}{s2:PS}(h2:R (xf T e s1 (⟨#[45,62]⟩:ByteArray))=(b,s2)):yZ T e R (n+1) qs l s=if isS T e s2 (⟨#[124]⟩:ByteArray)=true then yZ T e R n (qs++[layP p]) (l++[b]) (advS s2) else (qs++[layP p],l++[b],s2):=by
 conv=>lhs;unfold yZ
 rw [if_pos h,h1];simp only;rw [h2]
theorem arms_stop{n:Nat}{qs:List MPat}{l:List ET}{s:PS}(h:¬ s.code=0):yZ T e R n qs l s=(qs,l,s):=by
 cases n with
 | zero=>rfl
 | succ n=>unfold yZ;rw [if_neg h]
theorem xbs(hT:T.length<=10000)(hTn:∀ t∈T,-4611686018427387904<=t.n/\t.n<=4611686018427387904)(hRb:∀ s,EB T s (R s))(d:Int)(hd:0<=d/\d<=1000)(hR:CExp T e R (d+1))(at_:Int)(s:PS)(hs:WF T s):FT 205 [.opt (rdD T e s),.s (.int .i64 d),.s (.int .i64 at_)] (fun x o=>x=.ag (eV (wM T e R at_ s).1)/\o=[.opt (rdD T e (wM T e R at_ s).2),.un,.un]):=by
 have ha:=hR s hs;have m0:=(hRb s).1;unfold wM;rcases hq:R s with ⟨⟨b,l⟩,s1⟩
 rw [hq] at ha m0
 simp only at ha m0 ⊢
 have ho:=yb 13 at_ nS [.mk b l];have w0:=m0.wf hs;have htk:=xI T e s1 (by omega) (⟨#[119,105,116,104]⟩:ByteArray) (xa (l:=[119,105,116,104]) (by simp))
 have w1:=(Mo.take (T:=T) (e:=e) s1 (xa (l:=[119,105,116,104]) (by simp))).wf w0
 generalize xf T e s1 (⟨#[119,105,116,104]⟩:ByteArray)=s2 at *
 rcases hrr:yZ T e R (T.length+1) [] [.mk b l] s2 with ⟨qs9,l9,s9⟩
 simp only;have hend:=xI T e s9 (by omega) (⟨#[101,110,100]⟩:ByteArray) (xa (l:=[101,110,100]) (by simp))
 generalize xf T e s9 (⟨#[101,110,100]⟩:ByteArray)=s8 at *
 rw [xr,xb,xb] at ha
 rw [xb,xb] at htk hend
 rw [xP,List.map_cons,List.map_nil,xr] at ho
 unfold nS at *
 rw [xr,xb,xb];clear hq;refine FI PM Tryz.func205 Tryz.ntmps205 [(8,7,[4,6],[(4,0),(4,1),(4,2),(6,0),(6,1),(6,2)],(lin [4,6] [0,1,2,3,4,5,6]))] rfl rfl ?_
 (have hWf:=w2 @xe @xd;repeat' (first|refine zS ?_|refine zI ?_ ?_|refine zH ha ?_|refine zH ho ?_|refine zH htk ?_|exact zF0|refine zD fun hb=>?_|exact zC|refine zT ?_|fail))
 refine xn (fun n σ=>∃ (j:Nat) (qs:List MPat) (l:List ET) (s':PS),n=T.length - s'.i/\T.length - s'.i<j/\WF T s'/\qs.length<=s'.i/\l.length<=s'.i+1/\yZ T e R j qs l s'=(qs9,l9,s9)/\σ.t 0=.bx 900000 0/\σ.b 900000=some (.box [.sl 4 (T.map MTok.enc),.s (.int .i64 s'.i),.s (.int .i64 e),.s (.int .i64 s'.code),.s (.int .i64 s'.at_),.sl 1 (s'.vars.map iE),.bs 7900000 1 s'.seen.length])/\σ.b 7900000=some (.arr 9 1 (s'.seen.map stE))/\σ.t 1=.s (.int .i64 d)/\σ.t 6=.bx 6 0/\σ.b 6=some (.box [.s (.int .i64 0),.s (.int .i64 0),.s (.int .i64 0),.s (.string ⟨#[]⟩),.nil,.nil,.nil])/\σ.t 7=.bx 7 0/\σ.b 7=some (.box [.s (.int .i64 13),.s (.int .i64 at_),.s (.int .i64 0),.s (.string ⟨#[]⟩),.nil,.bs 6016 1 qs.length,.bs 7016 7 l.length])/\σ.b 6016=some (.arr 89 1 (qs.map MPat.own))/\σ.b 7016=some (.arr 58 7 (l.map eV))) (T.length - s2.i) ⟨T.length+1,[],[.mk b l],s2,rfl,by omega,w1,Nat.zero_le _,by simp,hrr,?_⟩ ?_
 .simp only [go_sem,simprocAttr,List.map_cons,List.map_nil,xr]
  done
 .rintro m σ ⟨j,qs,l,s',rfl,hj,hw,hql,hll,hap,h0,b9,b7,h1,h6,b6,h7,b7',bp,bq⟩ K' hK
  have hwi:=hw.1
  by_cases z0:s'.code=0
  .obtain ⟨j,rfl⟩:∃ q,j=q+1:=⟨j - 1,by omega⟩
   have f0:=kT z0;have wu:WF T (wh s'):=(Mo.unseen s').wf hw;have hcp:=c_l03Pat (e:=e) hT hTn 101 (Nat.le_refl _) (wh s') wu;have pb:=pat_b (T:=T) (e:=e) 101 (wh s');rcases hqp:patF T e 101 (wh s') with ⟨⟨pa,pk⟩,s3⟩
   rw [hqp] at hcp pb
   simp only at hcp pb
   have w3:=pb.1.wf wu;have htk2:=xI T e s3 (by omega) (⟨#[45,62]⟩:ByteArray) (xa (l:=[45,62]) (by simp))
   have mt:=Mo.take (T:=T) (e:=e) s3 (xa (l:=[45,62]) (by simp))
   have w4:=mt.wf w3;have hr:=hR (xf T e s3 (⟨#[45,62]⟩:ByteArray)) w4;have mr:=(hRb (xf T e s3 (⟨#[45,62]⟩:ByteArray))).1;rcases hqr:R (xf T e s3 (⟨#[45,62]⟩:ByteArray)) with ⟨⟨c,r⟩,s5⟩
   rw [hqr] at hr mr
   rw [arms_go z0 hqp hqr] at hap
   simp only at hr mr
   have w5:=mr.wf w4;have hib:=xD T e s5 (⟨#[124]⟩:ByteArray);have hsz:(Arb.mk pa pk:PT).size<=1000000:=by
    have:=pb.2;have:=w3.1;simp only at *
    omega
   have hpl:=c_playNil (.mk pa pk) hsz;have g1:s'.i<=s3.i:=pb.1.1;have g2:=mt.1;have g3:=mr.1;generalize xf T e s3 (⟨#[45,62]⟩:ByteArray)=s4 at *
   generalize hpp:layP (.mk pa pk)=pp at *
   have hown:=MPat.own_eq pp;unfold wh at hcp
   rw [show (101:Int) - ((101:Nat):Int)=0 by rfl,xb,xb,wZ] at hcp
   rw [List.map_nil] at hcp
   rw [xb,xb] at htk2 hr
   rw [xr] at hr
   rw [pF_mk] at hpl
   rw [xh] at hib
   clear hqp hqr hsz pb wu;cases hbar:isS T e s5 (⟨#[124]⟩:ByteArray) with
   | true=>
    have hlb:=(xA hbar (xa (l:=[124]) (by simp))).2
    rw [hbar,if_pos rfl] at hap
    rw [hbar] at hib
    iterate 4 (refine xE ?_;simp only [go_sem,simprocAttr,h0,b9,b7,h1,h6,b6,h7,b7',bp,bq,xe,xd,z4,f0];(have hWf:=w10 @h0 @b9 @b7 @h1 @h6 @b6 @h7 @b7' @bp (ai @bq<|ai @xe<|ai @xd<|ai @z4<|@f0);repeat' (first|refine zY ?_|refine zI ?_ ?_|exact zF1|refine zD fun hb=>?_|exact zC|refine zT ?_|fail)))
    refine zJ 900000 6 779 (row:=[.sl 4 (T.map MTok.enc),.s (.int .i64 s'.i),.s (.int .i64 e),.s (.int .i64 s'.code),.s (.int .i64 s'.at_),.sl 1 (s'.vars.map iE),.nil]) 9 1 (by simp only [go_sem,simprocAttr]) rfl (by decide) rfl ?_
    iterate 3 (refine xE ?_;simp only [go_sem,simprocAttr,h0,b9,b7,h1,h6,b6,h7,b7',bp,bq,xe,xd,z4,f0];(have hWf:=w10 @h0 @b9 @b7 @h1 @h6 @b6 @h7 @b7' @bp (ai @bq<|ai @xe<|ai @xd<|ai @z4<|@f0);repeat' (first|refine zY ?_|refine zI ?_ ?_|refine zH hcp ?_|refine zH htk2 ?_|refine zH hr ?_|exact zF1|refine zD fun hb=>?_|exact zC|refine zT ?_|fail)))
    refine z8 5028 (.arr 275 5 (pk.map pV)) (by simp only [go_sem,simprocAttr]) rfl ?_
    (have hWf:=w10 @h0 @b9 @b7 @h1 @h6 @b6 @h7 @b7' @bp (ai @bq<|ai @xe<|ai @xd<|ai @z4<|@f0);repeat' (first|refine zS ?_|refine zI ?_ ?_|refine zX hpl ?_|((with_reducible apply xc);refine xu (hpl) ?_;rintro _ _ ⟨rfl,rfl⟩)|refine zK hib ?_|exact zF0|refine zD fun hb=>?_|exact zC|refine zT ?_|fail))
    refine hK (T.length - (s5.i+1)) _ (by omega) ⟨j,qs++[pp],l++[.mk c r],advS s5,rfl,by show T.length - (s5.i+1)<j;omega,(Mo.adv hlb).wf w5,by rw [List.length_append];show qs.length+1<=s5.i+1;omega,by rw [List.length_append];show l.length+1<=s5.i+1+1;omega,hap,?_⟩
    simp only [go_sem,simprocAttr,h0,b9,b7,h1,h6,b6,h7,b7',bp,bq,xe,xd,z4,List.map_append,List.map_cons,List.map_nil,List.length_append,xr,hown];exact ⟨rfl,rfl⟩
   | false=>
    rw [hbar,if_neg (by decide)] at hap
    rw [hbar] at hib
    injection hap with e1 e2
    injection e2 with e2 e3
    subst e1 e2 e3
    iterate 4 (refine xE ?_;simp only [go_sem,simprocAttr,h0,b9,b7,h1,h6,b6,h7,b7',bp,bq,xe,xd,z4,f0];(have hWf:=w10 @h0 @b9 @b7 @h1 @h6 @b6 @h7 @b7' @bp (ai @bq<|ai @xe<|ai @xd<|ai @z4<|@f0);repeat' (first|refine zY ?_|refine zI ?_ ?_|exact zF1|refine zD fun hb=>?_|exact zC|refine zT ?_|fail)))
    refine zJ 900000 6 779 (row:=[.sl 4 (T.map MTok.enc),.s (.int .i64 s'.i),.s (.int .i64 e),.s (.int .i64 s'.code),.s (.int .i64 s'.at_),.sl 1 (s'.vars.map iE),.nil]) 9 1 (by simp only [go_sem,simprocAttr]) rfl (by decide) rfl ?_
    iterate 3 (refine xE ?_;simp only [go_sem,simprocAttr,h0,b9,b7,h1,h6,b6,h7,b7',bp,bq,xe,xd,z4,f0];(have hWf:=w10 @h0 @b9 @b7 @h1 @h6 @b6 @h7 @b7' @bp (ai @bq<|ai @xe<|ai @xd<|ai @z4<|@f0);repeat' (first|refine zY ?_|refine zI ?_ ?_|refine zH hcp ?_|refine zH htk2 ?_|refine zH hr ?_|exact zF1|refine zD fun hb=>?_|exact zC|refine zT ?_|fail)))
    refine z8 5028 (.arr 275 5 (pk.map pV)) (by simp only [go_sem,simprocAttr]) rfl ?_
    (have hWf:=w10 @h0 @b9 @b7 @h1 @h6 @b6 @h7 @b7' @bp (ai @bq<|ai @xe<|ai @xd<|ai @z4<|ai @f0<|ai @xr<|@hown);repeat' (first|refine zS ?_|refine zI ?_ ?_|refine zX hpl ?_|((with_reducible apply xc);refine xu (hpl) ?_;rintro _ _ ⟨rfl,rfl⟩)|refine zK hib ?_|refine zH hend ?_|exact zF0|refine zD fun hb=>?_|exact zC|refine zT ?_|fail))
    all_goals rfl
  .have f0:=kF z0
   rw [arms_stop z0] at hap
   injection hap with e1 e2
   injection e2 with e2 e3
   subst e1 e2 e3
   (have hWf:=w10 @h0 @b9 @b7 @h1 @h6 @b6 @h7 @b7' @bp (ai @bq<|ai @xe<|ai @xd<|ai @z4<|@f0);repeat' (first|refine zS ?_|refine zI ?_ ?_|refine zH hend ?_|exact zF0|refine zD fun hb=>?_|exact zC|refine zT ?_|fail))
   all_goals rfl
end
end
section
open Go.RowKit Arb
section
variable {T:List MTok} {e:Int} {R:PS->ET×PS}
def EX(T:List MTok)(e:Int)(d:Int)(s:PS)(r:ET×PS):Prop:=FT 130 [.opt (rdD T e s),.s (.int .i64 d)] (fun x o=>x=.ag (eV r.1)/\o=[.opt (rdD T e r.2),.un])
theorem ex_fun(hT:T.length<=10000)(d:Int)(hd:0<=d/\d<=100)(s:PS)(z0:s.code=0)(h:isS T e s (⟨#[102,117,110]⟩:ByteArray)=true){x:ByteArray}{s1:PS}(hw0':xt T e (advS s) 3=(x,s1)){s2:PS}(hk1':xf T e s1 (⟨#[45,62]⟩:ByteArray)=s2){b:ET}{s3:PS}(hr2:EX T e (d+1) s2 (b,s3)):EX T e d s (eN 5 (tokS T e s).at_ x [b],s3):=by
 have ht:=xp T e s;have hg:=xJ (tokS T e s);have hlt:=(xA h (xa (l:=[102,117,110]) (by simp))).2
 have hdd:decide ((100:Int)<d)=false:=decide_eq_false (by omega)
 have f0:=knT z0;have hw0:=yO T e (advS s) (by omega) 3 (by decide)
 rw [hw0'] at hw0
 have hk1:=xI T e s1 (by omega) (⟨#[45,62]⟩:ByteArray) (xa (l:=[45,62]) (by simp))
 rw [hk1'] at hk1
 have ho0:=yb 5 (tokS T e s).at_ x [b];clear z0 hw0' hk1';unfold EX at *
 simp only [yn] at h
 generalize tokS T e s=t at *
 obtain ⟨b,b'⟩:=b
 try unfold advS at *
 rw [MTok.enc_eq,xh] at ht
 rw [MTok.enc_eq] at hg
 rw [xb,xb] at hw0 hk1
 rw [xr,xb,xb] at hr2
 try unfold nS at *
 simp only [xP,List.map_cons,List.map_nil,xr] at ho0 ⊢
 rw [xb,xb];refine FI PM Tryz.func130 Tryz.ntmps130 [(25,10,[6,7,9],[(6,0),(6,1),(6,2),(6,3),(6,4),(6,8),(7,0),(7,1),(7,2),(7,8),(9,0),(9,1),(9,2)],(lin [6,7,9] [0,1,2,3,4,5,8,6,7,9]))] rfl rfl ?_
 (have hWf:=w5 @xe @xd @f0 @hdd @h;repeat' (first|refine zS ?_|refine zI ?_ ?_|refine zK ht ?_|refine zK hg ?_|refine zH hw0 ?_|refine zH hk1 ?_|refine zH hr2 ?_|refine zX ho0 ?_|((with_reducible apply xc);refine xu (ho0) ?_;rintro _ _ ⟨rfl,rfl⟩)|exact zF0|refine zD fun hb=>?_|exact zC|refine zT ?_|fail))
 all_goals rfl
theorem ex_rec(hT:T.length<=10000)(d:Int)(hd:0<=d/\d<=100)(s:PS)(z0:s.code=0)(n0:isS T e s (⟨#[102,117,110]⟩:ByteArray)=false)(h:isS T e s (⟨#[108,101,116]⟩:ByteArray)=true)(hi0':isS T e (advS s) (⟨#[114,101,99]⟩:ByteArray)=true){f:ByteArray}{s2:PS}(hw1':xt T e (advS (advS s)) 3=(f,s2)){x:ByteArray}{s4:PS}(hw3':xt T e s2 3=(x,s4)){s5:PS}(hk4':xf T e s4 (⟨#[61]⟩:ByteArray)=s5){a:ET}{s6:PS}(hr5:EX T e (d+1) s5 (a,s6)){s7:PS}(hk6':xf T e s6 (⟨#[105,110]⟩:ByteArray)=s7){b:ET}{s8:PS}(hr7:EX T e (d+1) s7 (b,s8)):EX T e d s (eN 8 (tokS T e s).at_ f [eN 5 (tokS T e s2).at_ x [a],b],s8):=by
 have ht:=xp T e s;have hg:=xJ (tokS T e s);have hlt:=(xA h (xa (l:=[108,101,116]) (by simp))).2
 have hdd:decide ((100:Int)<d)=false:=decide_eq_false (by omega)
 have f0:=knT z0;have hi0:=xD T e (advS s) (⟨#[114,101,99]⟩:ByteArray);rw [hi0'] at hi0
 have hlhi0:=(xA hi0' (xa (l:=[114,101,99]) (by simp))).2
 have hw1:=yO T e (advS (advS s)) (by omega) 3 (by decide)
 rw [hw1'] at hw1
 have ht2:=xp T e s2;have hw3:=yO T e s2 (by omega) 3 (by decide)
 rw [hw3'] at hw3
 have hk4:=xI T e s4 (by omega) (⟨#[61]⟩:ByteArray) (xa (l:=[61]) (by simp))
 rw [hk4'] at hk4
 have hk6:=xI T e s6 (by omega) (⟨#[105,110]⟩:ByteArray) (xa (l:=[105,110]) (by simp))
 rw [hk6'] at hk6
 have ho0:=yb 5 (tokS T e s2).at_ x [a];have ho1:=yb 8 (tokS T e s).at_ f [eN 5 (tokS T e s2).at_ x [a],b];clear z0 hi0' hw1' hw3' hk4' hk6';unfold EX at *
 simp only [yn] at n0 h
 generalize tokS T e s=t at *
 generalize tokS T e s2=u at *
 obtain ⟨a,a'⟩:=a;obtain ⟨b,b'⟩:=b
 try unfold advS at *
 rw [MTok.enc_eq,xh] at ht ht2
 rw [MTok.enc_eq] at hg
 rw [xh] at hi0
 rw [xb,xb] at hw1 hw3 hk4 hk6
 rw [xr,xb,xb] at hr5 hr7
 try unfold nS at *
 simp only [xP,List.map_cons,List.map_nil,xr] at ho0 ho1 ⊢
 rw [xb,xb];refine FI PM Tryz.func130 Tryz.ntmps130 [(25,10,[6,7,9],[(6,0),(6,1),(6,2),(6,3),(6,4),(6,8),(7,0),(7,1),(7,2),(7,8),(9,0),(9,1),(9,2)],(lin [6,7,9] [0,1,2,3,4,5,8,6,7,9]))] rfl rfl ?_
 (have hWf:=w6 @xe @xd @f0 @hdd @n0 @h;repeat' (first|refine zS ?_|refine zI ?_ ?_|refine zK ht ?_|refine zK hg ?_|refine zK hi0 ?_|refine zH hw1 ?_|refine zK ht2 ?_|refine zH hw3 ?_|refine zH hk4 ?_|refine zH hr5 ?_|refine zH hk6 ?_|refine zH hr7 ?_|refine zX ho0 ?_|((with_reducible apply xc);refine xu (ho0) ?_;rintro _ _ ⟨rfl,rfl⟩)|refine zX ho1 ?_|((with_reducible apply xc);refine xu (ho1) ?_;rintro _ _ ⟨rfl,rfl⟩)|exact zF0|refine zD fun hb=>?_|exact zC|refine zT ?_|fail))
 all_goals rfl
theorem ex_let(hT:T.length<=10000)(d:Int)(hd:0<=d/\d<=100)(s:PS)(z0:s.code=0)(n0:isS T e s (⟨#[102,117,110]⟩:ByteArray)=false)(h:isS T e s (⟨#[108,101,116]⟩:ByteArray)=true)(hi0':isS T e (advS s) (⟨#[114,101,99]⟩:ByteArray)=false){x:ByteArray}{s2:PS}(hw1':xt T e (advS s) 3=(x,s2)){s3:PS}(hk2':xf T e s2 (⟨#[61]⟩:ByteArray)=s3){a:ET}{s4:PS}(hr3:EX T e (d+1) s3 (a,s4)){s5:PS}(hk4':xf T e s4 (⟨#[105,110]⟩:ByteArray)=s5){b:ET}{s6:PS}(hr5:EX T e (d+1) s5 (b,s6)):EX T e d s (eN 7 (tokS T e s).at_ x [a,b],s6):=by
 have ht:=xp T e s;have hg:=xJ (tokS T e s);have hlt:=(xA h (xa (l:=[108,101,116]) (by simp))).2
 have hdd:decide ((100:Int)<d)=false:=decide_eq_false (by omega)
 have f0:=knT z0;have hi0:=xD T e (advS s) (⟨#[114,101,99]⟩:ByteArray);rw [hi0'] at hi0
 have hw1:=yO T e (advS s) (by omega) 3 (by decide)
 rw [hw1'] at hw1
 have hk2:=xI T e s2 (by omega) (⟨#[61]⟩:ByteArray) (xa (l:=[61]) (by simp))
 rw [hk2'] at hk2
 have hk4:=xI T e s4 (by omega) (⟨#[105,110]⟩:ByteArray) (xa (l:=[105,110]) (by simp))
 rw [hk4'] at hk4
 have ho0:=yb 7 (tokS T e s).at_ x [a,b];clear z0 hi0' hw1' hk2' hk4';unfold EX at *
 simp only [yn] at n0 h
 generalize tokS T e s=t at *
 obtain ⟨a,a'⟩:=a;obtain ⟨b,b'⟩:=b
 try unfold advS at *
 rw [MTok.enc_eq,xh] at ht
 rw [MTok.enc_eq] at hg
 rw [xh] at hi0
 rw [xb,xb] at hw1 hk2 hk4
 rw [xr,xb,xb] at hr3 hr5
 try unfold nS at *
 simp only [xP,List.map_cons,List.map_nil,xr] at ho0 ⊢
 rw [xb,xb];refine FI PM Tryz.func130 Tryz.ntmps130 [(25,10,[6,7,9],[(6,0),(6,1),(6,2),(6,3),(6,4),(6,8),(7,0),(7,1),(7,2),(7,8),(9,0),(9,1),(9,2)],(lin [6,7,9] [0,1,2,3,4,5,8,6,7,9]))] rfl rfl ?_
 (have hWf:=w6 @xe @xd @f0 @hdd @n0 @h;repeat' (first|refine zS ?_|refine zI ?_ ?_|refine zK ht ?_|refine zK hg ?_|refine zK hi0 ?_|refine zH hw1 ?_|refine zH hk2 ?_|refine zH hr3 ?_|refine zH hk4 ?_|refine zH hr5 ?_|refine zX ho0 ?_|((with_reducible apply xc);refine xu (ho0) ?_;rintro _ _ ⟨rfl,rfl⟩)|exact zF0|refine zD fun hb=>?_|exact zC|refine zT ?_|fail))
 all_goals rfl
theorem ex_if(hT:T.length<=10000)(d:Int)(hd:0<=d/\d<=100)(s:PS)(z0:s.code=0)(n0:isS T e s (⟨#[102,117,110]⟩:ByteArray)=false)(n1:isS T e s (⟨#[108,101,116]⟩:ByteArray)=false)(h:isS T e s (⟨#[105,102]⟩:ByteArray)=true){a:ET}{s1:PS}(hr0:EX T e (d+1) (advS s) (a,s1)){s2:PS}(hk1':xf T e s1 (⟨#[116,104,101,110]⟩:ByteArray)=s2){b:ET}{s3:PS}(hr2:EX T e (d+1) s2 (b,s3)){s4:PS}(hk3':xf T e s3 (⟨#[101,108,115,101]⟩:ByteArray)=s4){c:ET}{s5:PS}(hr4:EX T e (d+1) s4 (c,s5)):EX T e d s (eN 9 (tokS T e s).at_ nS [a,b,c],s5):=by
 have ht:=xp T e s;have hg:=xJ (tokS T e s);have hlt:=(xA h (xa (l:=[105,102]) (by simp))).2
 have hdd:decide ((100:Int)<d)=false:=decide_eq_false (by omega)
 have f0:=knT z0;have hk1:=xI T e s1 (by omega) (⟨#[116,104,101,110]⟩:ByteArray) (xa (l:=[116,104,101,110]) (by simp))
 rw [hk1'] at hk1
 have hk3:=xI T e s3 (by omega) (⟨#[101,108,115,101]⟩:ByteArray) (xa (l:=[101,108,115,101]) (by simp))
 rw [hk3'] at hk3
 have ho0:=yb 9 (tokS T e s).at_ nS [a,b,c];clear z0 hk1' hk3';unfold EX at *
 simp only [yn] at n0 n1 h
 generalize tokS T e s=t at *
 obtain ⟨a,a'⟩:=a;obtain ⟨b,b'⟩:=b;obtain ⟨c,c'⟩:=c
 try unfold advS at *
 rw [MTok.enc_eq,xh] at ht
 rw [MTok.enc_eq] at hg
 rw [xb,xb] at hk1 hk3
 rw [xr,xb,xb] at hr0 hr2 hr4
 try unfold nS at *
 simp only [xP,List.map_cons,List.map_nil,xr] at ho0 ⊢
 rw [xb,xb];refine FI PM Tryz.func130 Tryz.ntmps130 [(25,10,[6,7,9],[(6,0),(6,1),(6,2),(6,3),(6,4),(6,8),(7,0),(7,1),(7,2),(7,8),(9,0),(9,1),(9,2)],(lin [6,7,9] [0,1,2,3,4,5,8,6,7,9]))] rfl rfl ?_
 (have hWf:=w7 @xe @xd @f0 @hdd @n0 @n1 @h;repeat' (first|refine zS ?_|refine zI ?_ ?_|refine zK ht ?_|refine zK hg ?_|refine zH hr0 ?_|refine zH hk1 ?_|refine zH hr2 ?_|refine zH hk3 ?_|refine zH hr4 ?_|refine zX ho0 ?_|((with_reducible apply xc);refine xu (ho0) ?_;rintro _ _ ⟨rfl,rfl⟩)|exact zF0|refine zD fun hb=>?_|exact zC|refine zT ?_|fail))
 all_goals rfl
theorem ex_match(hT:T.length<=10000)(d:Int)(hd:0<=d/\d<=100)(s:PS)(z0:s.code=0)(n0:isS T e s (⟨#[102,117,110]⟩:ByteArray)=false)(n1:isS T e s (⟨#[108,101,116]⟩:ByteArray)=false)(n2:isS T e s (⟨#[105,102]⟩:ByteArray)=false)(h:isS T e s (⟨#[109,97,116,99,104]⟩:ByteArray)=true){a:ET}{s1:PS}(hc0:FT 205 [.opt (rdD T e (advS s)),.s (.int .i64 d),.s (.int .i64 (tokS T e s).at_)] (fun x o=>x=.ag (eV (a,s1).1)/\o=[.opt (rdD T e (a,s1).2),.un,.un])):EX T e d s (a,s1):=by
 have ht:=xp T e s;have hg:=xJ (tokS T e s);have hlt:=(xA h (xa (l:=[109,97,116,99,104]) (by simp))).2
 have hdd:decide ((100:Int)<d)=false:=decide_eq_false (by omega)
 have f0:=knT z0;clear z0;unfold EX at *
 simp only [yn] at n0 n1 n2 h
 generalize tokS T e s=t at *
 obtain ⟨a,a'⟩:=a
 try unfold advS at *
 rw [MTok.enc_eq,xh] at ht
 rw [MTok.enc_eq] at hg
 rw [xr,xb,xb] at hc0
 try unfold nS at *
 simp only [xP,List.map_cons,List.map_nil,xr] at ⊢
 rw [xb,xb];refine FI PM Tryz.func130 Tryz.ntmps130 [(25,10,[6,7,9],[(6,0),(6,1),(6,2),(6,3),(6,4),(6,8),(7,0),(7,1),(7,2),(7,8),(9,0),(9,1),(9,2)],(lin [6,7,9] [0,1,2,3,4,5,8,6,7,9]))] rfl rfl ?_
 (have hWf:=w8 @xe @xd @f0 @hdd @n0 @n1 @n2 @h;repeat' (first|refine zS ?_|refine zI ?_ ?_|refine zK ht ?_|refine zK hg ?_|refine zH hc0 ?_|exact zF0|refine zD fun hb=>?_|exact zC|refine zT ?_|fail))
 all_goals rfl
theorem ex_try(hT:T.length<=10000)(d:Int)(hd:0<=d/\d<=100)(s:PS)(z0:s.code=0)(n0:isS T e s (⟨#[102,117,110]⟩:ByteArray)=false)(n1:isS T e s (⟨#[108,101,116]⟩:ByteArray)=false)(n2:isS T e s (⟨#[105,102]⟩:ByteArray)=false)(n3:isS T e s (⟨#[109,97,116,99,104]⟩:ByteArray)=false)(h:isS T e s (⟨#[116,114,121]⟩:ByteArray)=true){a:ET}{s1:PS}(hr0:EX T e (d+1) (advS s) (a,s1)){s2:PS}(hk1':xf T e s1 (⟨#[119,105,116,104]⟩:ByteArray)=s2){x:ByteArray}{s3:PS}(hw2':xt T e s2 3=(x,s3)){s4:PS}(hk3':xf T e s3 (⟨#[45,62]⟩:ByteArray)=s4){b:ET}{s5:PS}(hr4:EX T e (d+1) s4 (b,s5)){s6:PS}(hk5':xf T e s5 (⟨#[101,110,100]⟩:ByteArray)=s6):EX T e d s (eN 15 (tokS T e s).at_ x [a,b],s6):=by
 have ht:=xp T e s;have hg:=xJ (tokS T e s);have hlt:=(xA h (xa (l:=[116,114,121]) (by simp))).2
 have hdd:decide ((100:Int)<d)=false:=decide_eq_false (by omega)
 have f0:=knT z0;have hk1:=xI T e s1 (by omega) (⟨#[119,105,116,104]⟩:ByteArray) (xa (l:=[119,105,116,104]) (by simp))
 rw [hk1'] at hk1
 have hw2:=yO T e s2 (by omega) 3 (by decide)
 rw [hw2'] at hw2
 have hk3:=xI T e s3 (by omega) (⟨#[45,62]⟩:ByteArray) (xa (l:=[45,62]) (by simp))
 rw [hk3'] at hk3
 have hk5:=xI T e s5 (by omega) (⟨#[101,110,100]⟩:ByteArray) (xa (l:=[101,110,100]) (by simp))
 rw [hk5'] at hk5
 have ho0:=yb 15 (tokS T e s).at_ x [a,b];clear z0 hk1' hw2' hk3' hk5';unfold EX at *
 simp only [yn] at n0 n1 n2 n3 h
 generalize tokS T e s=t at *
 obtain ⟨a,a'⟩:=a;obtain ⟨b,b'⟩:=b
 try unfold advS at *
 rw [MTok.enc_eq,xh] at ht
 rw [MTok.enc_eq] at hg
 rw [xb,xb] at hk1 hw2 hk3 hk5
 rw [xr,xb,xb] at hr0 hr4
 try unfold nS at *
 simp only [xP,List.map_cons,List.map_nil,xr] at ho0 ⊢
 rw [xb,xb];refine FI PM Tryz.func130 Tryz.ntmps130 [(25,10,[6,7,9],[(6,0),(6,1),(6,2),(6,3),(6,4),(6,8),(7,0),(7,1),(7,2),(7,8),(9,0),(9,1),(9,2)],(lin [6,7,9] [0,1,2,3,4,5,8,6,7,9]))] rfl rfl ?_
 (have hWf:=w9 @xe @xd @f0 @hdd @n0 @n1 @n2 @n3 @h;repeat' (first|refine zS ?_|refine zI ?_ ?_|refine zK ht ?_|refine zK hg ?_|refine zH hr0 ?_|refine zH hk1 ?_|refine zH hw2 ?_|refine zH hk3 ?_|refine zH hr4 ?_|refine zH hk5 ?_|refine zX ho0 ?_|((with_reducible apply xc);refine xu (ho0) ?_;rintro _ _ ⟨rfl,rfl⟩)|exact zF0|refine zD fun hb=>?_|exact zC|refine zT ?_|fail))
 all_goals rfl
theorem ex_set(hT:T.length<=10000)(d:Int)(hd:0<=d/\d<=100)(s:PS)(z0:s.code=0)(n0:isS T e s (⟨#[102,117,110]⟩:ByteArray)=false)(n1:isS T e s (⟨#[108,101,116]⟩:ByteArray)=false)(n2:isS T e s (⟨#[105,102]⟩:ByteArray)=false)(n3:isS T e s (⟨#[109,97,116,99,104]⟩:ByteArray)=false)(n4:isS T e s (⟨#[116,114,121]⟩:ByteArray)=false){a:ET}{s1:PS}(hc0:ES T e d s (a,s1))(hi1':isS T e s1 (⟨#[59]⟩:ByteArray)=false):EX T e d s (a,s1):=by
 have ht:=xp T e s;have hg:=xJ (tokS T e s);have hdd:decide ((100:Int)<d)=false:=decide_eq_false (by omega)
 have f0:=knT z0;have hi1:=xD T e s1 (⟨#[59]⟩:ByteArray);rw [hi1'] at hi1
 clear z0 hi1';unfold EX at *
 unfold ES at hc0
 simp only [yn] at n0 n1 n2 n3 n4
 generalize tokS T e s=t at *
 obtain ⟨a,a'⟩:=a
 try unfold advS at *
 rw [MTok.enc_eq,xh] at ht
 rw [MTok.enc_eq] at hg
 rw [xh] at hi1
 rw [xr,xb,xb] at hc0
 try unfold nS at *
 simp only [xP,List.map_cons,List.map_nil,xr] at ⊢
 rw [xb,xb];refine FI PM Tryz.func130 Tryz.ntmps130 [(25,10,[6,7,9],[(6,0),(6,1),(6,2),(6,3),(6,4),(6,8),(7,0),(7,1),(7,2),(7,8),(9,0),(9,1),(9,2)],(lin [6,7,9] [0,1,2,3,4,5,8,6,7,9]))] rfl rfl ?_
 (have hWf:=w9 @xe @xd @f0 @hdd @n0 @n1 @n2 @n3 @n4;repeat' (first|refine zS ?_|refine zI ?_ ?_|refine zK ht ?_|refine zK hg ?_|refine zH hc0 ?_|refine zK hi1 ?_|exact zF0|refine zD fun hb=>?_|exact zC|refine zT ?_|fail))
 all_goals rfl
theorem ex_seq(hT:T.length<=10000)(d:Int)(hd:0<=d/\d<=100)(s:PS)(z0:s.code=0)(n0:isS T e s (⟨#[102,117,110]⟩:ByteArray)=false)(n1:isS T e s (⟨#[108,101,116]⟩:ByteArray)=false)(n2:isS T e s (⟨#[105,102]⟩:ByteArray)=false)(n3:isS T e s (⟨#[109,97,116,99,104]⟩:ByteArray)=false)(n4:isS T e s (⟨#[116,114,121]⟩:ByteArray)=false){a:ET}{s1:PS}(hc0:ES T e d s (a,s1))(hi1':isS T e s1 (⟨#[59]⟩:ByteArray)=true){b:ET}{s4:PS}(hr3:EX T e (d+1) (advS s1) (b,s4)):EX T e d s (eN 19 (tokS T e s1).at_ nS [a,b],s4):=by
 have ht:=xp T e s;have hg:=xJ (tokS T e s);have hdd:decide ((100:Int)<d)=false:=decide_eq_false (by omega)
 have f0:=knT z0;have hi1:=xD T e s1 (⟨#[59]⟩:ByteArray);rw [hi1'] at hi1
 have hlhi1:=(xA hi1' (xa (l:=[59]) (by simp))).2
 have ht2:=xp T e s1;have ho0:=yb 19 (tokS T e s1).at_ nS [a,b];clear z0 hi1';unfold EX at *
 unfold ES at hc0
 simp only [yn] at n0 n1 n2 n3 n4
 generalize tokS T e s=t at *
 generalize tokS T e s1=u at *
 obtain ⟨a,a'⟩:=a;obtain ⟨b,b'⟩:=b
 try unfold advS at *
 rw [MTok.enc_eq,xh] at ht ht2
 rw [MTok.enc_eq] at hg
 rw [xh] at hi1
 rw [xr,xb,xb] at hc0 hr3
 try unfold nS at *
 simp only [xP,List.map_cons,List.map_nil,xr] at ho0 ⊢
 rw [xb,xb];refine FI PM Tryz.func130 Tryz.ntmps130 [(25,10,[6,7,9],[(6,0),(6,1),(6,2),(6,3),(6,4),(6,8),(7,0),(7,1),(7,2),(7,8),(9,0),(9,1),(9,2)],(lin [6,7,9] [0,1,2,3,4,5,8,6,7,9]))] rfl rfl ?_
 (have hWf:=w9 @xe @xd @f0 @hdd @n0 @n1 @n2 @n3 @n4;repeat' (first|refine zS ?_|refine zI ?_ ?_|refine zK ht ?_|refine zK hg ?_|refine zH hc0 ?_|refine zK hi1 ?_|refine zK ht2 ?_|refine zH hr3 ?_|refine zX ho0 ?_|((with_reducible apply xc);refine xu (ho0) ?_;rintro _ _ ⟨rfl,rfl⟩)|exact zF0|refine zD fun hb=>?_|exact zC|refine zT ?_|fail))
 all_goals rfl
theorem ex_stop(d:Int)(s:PS)(z0:¬ s.code=0):EX T e d s (E0,s):=by
 have f0:(s.code != 0)=true:=by simpa using z0
 unfold EX;refine FCon.eLeaf ?_;rw [xb];refine FI PM Tryz.func130 Tryz.ntmps130 [(25,10,[6,7,9],[(6,0),(6,1),(6,2),(6,3),(6,4),(6,8),(7,0),(7,1),(7,2),(7,8),(9,0),(9,1),(9,2)],(lin [6,7,9] [0,1,2,3,4,5,8,6,7,9]))] rfl rfl ?_
 (have hWf:=w3 @xe @xd @f0;repeat' (first|refine zS ?_|refine zI ?_ ?_|exact zF0|refine zD fun hb=>?_|exact zC|refine zT ?_|fail))
 all_goals rfl
theorem ex_end(s:PS)(z0:s.code=0):EX T e 101 s (E0,wl T e s (Ws (tokS T e s))):=by
 have f0:(s.code != 0)=false:=by rw [z0];rfl
 have hb:=QZ T e s;have hdp:=ZL T e s (Ws (tokS T e s));unfold EX;generalize Ws (tokS T e s)=q at *
 refine FCon.eLeaf ?_;rw [xh] at hb
 rw [xb,xb] at hdp
 rw [xb,xb];clear z0;refine FI PM Tryz.func130 Tryz.ntmps130 [(25,10,[6,7,9],[(6,0),(6,1),(6,2),(6,3),(6,4),(6,8),(7,0),(7,1),(7,2),(7,8),(9,0),(9,1),(9,2)],(lin [6,7,9] [0,1,2,3,4,5,8,6,7,9]))] rfl rfl ?_
 (have hWf:=w3 @xe @xd @f0;repeat' (first|refine zS ?_|refine zI ?_ ?_|refine zK hb ?_|refine zH hdp ?_|exact zF0|refine zD fun hb=>?_|exact zC|refine zT ?_|fail))
 all_goals rfl
theorem uK{s:PS}{x:ByteArray}(hx:x.toList≠[])(hs:WF T s):WF T (xf T e s x):=(Mo.take s hx).wf hs
theorem YX{s s1:PS}{k:Int}{x:ByteArray}(hk:k≠0)(h:xt T e s k=(x,s1))(hs:WF T s):WF T s1:=(ux hk h).wf hs
theorem xbo(hT:T.length<=10000)(hTn:∀ t∈T,-4611686018427387904<=t.n/\t.n<=4611686018427387904)(hRb:∀ s,EB T s (R s))(d:Int)(hd:0<=d/\d<=100)(hR:CExp T e R (d+1))(s:PS)(hs:WF T s):EX T e d s (wW T e R s):=by
 have hd':0<=d/\d<=1000:=⟨hd.1,by omega⟩
 have hr:∀ {s':PS} {r:ET×PS},R s'=r->WF T s'->EX T e (d+1) s' r:=fun h w=>by subst h;exact hR _ w
 have wr:∀ {s' s1:PS} {b:ET},R s'=(b,s1)->WF T s'->WF T s1:=fun {s' s1 b} h w=>by
  have:=(hRb s').1.wf w;rw [h] at this;exact this
 unfold wW
 by_cases z0:s.code=0
 .rw [if_pos z0]
  by_cases h0:isS T e s (⟨#[102,117,110]⟩:ByteArray)=true
  .rw [if_pos h0]
   have w0:=(Mo.advS h0 (xa (l:=[102,117,110]) (by simp))).wf hs
   rcases h1:xt T e (advS s) 3 with ⟨x,s1⟩
   have w1:=YX (by decide) h1 w0
   have w2:=uK (e:=e) (x:=(⟨#[45,62]⟩:ByteArray)) (xa (l:=[45,62]) (by simp)) w1
   simp only;rcases h2:R (xf T e s1 (⟨#[45,62]⟩:ByteArray)) with ⟨b,s2⟩
   exact ex_fun hT d hd s z0 h0 h1 rfl (hr h2 w2)
  rw [if_neg h0];have n0:=Bool.eq_false_iff.2 h0
  by_cases h1:isS T e s (⟨#[108,101,116]⟩:ByteArray)=true
  .rw [if_pos h1]
   have w0:=(Mo.advS h1 (xa (l:=[108,101,116]) (by simp))).wf hs
   by_cases h2:isS T e (advS s) (⟨#[114,101,99]⟩:ByteArray)=true
   .rw [if_pos h2]
    have w1:=(Mo.advS h2 (xa (l:=[114,101,99]) (by simp))).wf w0
    rcases h3:xt T e (advS (advS s)) 3 with ⟨f,s1⟩
    have w2:=YX (by decide) h3 w1
    simp only;rcases h4:xt T e s1 3 with ⟨x,s2⟩
    have w3:=YX (by decide) h4 w2
    have w4:=uK (e:=e) (x:=(⟨#[61]⟩:ByteArray)) (xa (l:=[61]) (by simp)) w3
    simp only;rcases h5:R (xf T e s2 (⟨#[61]⟩:ByteArray)) with ⟨a,s3⟩
    have w5:=wr h5 w4;have w6:=uK (e:=e) (x:=(⟨#[105,110]⟩:ByteArray)) (xa (l:=[105,110]) (by simp)) w5
    simp only;rcases h6:R (xf T e s3 (⟨#[105,110]⟩:ByteArray)) with ⟨b,s4⟩
    exact ex_rec hT d hd s z0 n0 h1 h2 h3 h4 rfl (hr h5 w4) rfl (hr h6 w6)
   .rw [if_neg h2]
    rcases h4:xt T e (advS s) 3 with ⟨x,s2⟩
    have w3:=YX (by decide) h4 w0
    have w4:=uK (e:=e) (x:=(⟨#[61]⟩:ByteArray)) (xa (l:=[61]) (by simp)) w3
    simp only;rcases h5:R (xf T e s2 (⟨#[61]⟩:ByteArray)) with ⟨a,s3⟩
    have w5:=wr h5 w4;have w6:=uK (e:=e) (x:=(⟨#[105,110]⟩:ByteArray)) (xa (l:=[105,110]) (by simp)) w5
    simp only;rcases h6:R (xf T e s3 (⟨#[105,110]⟩:ByteArray)) with ⟨b,s4⟩
    exact ex_let hT d hd s z0 n0 h1 (Bool.eq_false_iff.2 h2) h4 rfl (hr h5 w4) rfl (hr h6 w6)
  rw [if_neg h1];have n1:=Bool.eq_false_iff.2 h1
  by_cases h2:isS T e s (⟨#[105,102]⟩:ByteArray)=true
  .rw [if_pos h2]
   have w0:=(Mo.advS h2 (xa (l:=[105,102]) (by simp))).wf hs
   rcases h3:R (advS s) with ⟨a,s1⟩
   have w1:=wr h3 w0;have w2:=uK (e:=e) (x:=(⟨#[116,104,101,110]⟩:ByteArray)) (xa (l:=[116,104,101,110]) (by simp)) w1
   simp only;rcases h4:R (xf T e s1 (⟨#[116,104,101,110]⟩:ByteArray)) with ⟨b,s2⟩
   have w3:=wr h4 w2;have w4:=uK (e:=e) (x:=(⟨#[101,108,115,101]⟩:ByteArray)) (xa (l:=[101,108,115,101]) (by simp)) w3
   simp only;rcases h5:R (xf T e s2 (⟨#[101,108,115,101]⟩:ByteArray)) with ⟨c,s3⟩
   exact ex_if hT d hd s z0 n0 n1 h2 (hr h3 w0) rfl (hr h4 w2) rfl (hr h5 w4)
  rw [if_neg h2];have n2:=Bool.eq_false_iff.2 h2
  by_cases h3:isS T e s (⟨#[109,97,116,99,104]⟩:ByteArray)=true
  .rw [if_pos h3]
   have w0:=(Mo.advS h3 (xa (l:=[109,97,116,99,104]) (by simp))).wf hs
   have hm:=xbs hT hTn hRb d hd' hR (tokS T e s).at_ (advS s) w0;rcases h4:wM T e R (tokS T e s).at_ (advS s) with ⟨a,s1⟩
   rw [h4] at hm
   exact ex_match hT d hd s z0 n0 n1 n2 h3 hm
  rw [if_neg h3];have n3:=Bool.eq_false_iff.2 h3
  by_cases h4:isS T e s (⟨#[116,114,121]⟩:ByteArray)=true
  .rw [if_pos h4]
   have w0:=(Mo.advS h4 (xa (l:=[116,114,121]) (by simp))).wf hs
   rcases h5:R (advS s) with ⟨a,s1⟩
   have w1:=wr h5 w0;have w2:=uK (e:=e) (x:=(⟨#[119,105,116,104]⟩:ByteArray)) (xa (l:=[119,105,116,104]) (by simp)) w1
   simp only;rcases h6:xt T e (xf T e s1 (⟨#[119,105,116,104]⟩:ByteArray)) 3 with ⟨x,s2⟩
   have w3:=YX (by decide) h6 w2
   have w4:=uK (e:=e) (x:=(⟨#[45,62]⟩:ByteArray)) (xa (l:=[45,62]) (by simp)) w3
   simp only;rcases h7:R (xf T e s2 (⟨#[45,62]⟩:ByteArray)) with ⟨b,s3⟩
   exact ex_try hT d hd s z0 n0 n1 n2 n3 h4 (hr h5 w0) rfl h6 rfl (hr h7 w4) rfl
  rw [if_neg h4];have n4:=Bool.eq_false_iff.2 h4;have ha:=c_l03Set hT hRb d hd' hR (T.length+1) s (by omega) hs
  have ma:=(set_b hRb (e:=e) (T.length+1) s).1.wf hs;rcases h5:setF T e R (T.length+1) s with ⟨a,s1⟩
  rw [h5] at ha ma
  simp only
  by_cases h6:isS T e s1 (⟨#[59]⟩:ByteArray)=true
  .rw [if_pos h6]
   have w1:=(Mo.advS h6 (xa (l:=[59]) (by simp))).wf ma
   rcases h7:R (advS s1) with ⟨b,s2⟩
   exact ex_seq hT d hd s z0 n0 n1 n2 n3 n4 ha h6 (hr h7 w1)
  .rw [if_neg h6]
   exact ex_set hT d hd s z0 n0 n1 n2 n3 n4 ha (Bool.eq_false_iff.2 h6)
 .rw [if_neg z0];exact ex_stop d s z0
theorem c_l03Expr(hT:T.length<=10000)(hTn:∀ t∈T,-4611686018427387904<=t.n/\t.n<=4611686018427387904):∀ k:Nat,k<=101->CExp T e (uA T e k) (101 - k):=fun k=>by
 induction k with
 | zero=>
  intro _ s hs;unfold uA
  by_cases z0:s.code=0
  .rw [if_pos z0];exact ex_end s z0
  .rw [if_neg z0];exact ex_stop _ s z0
 | succ k ih=>
  intro hk s hs;have h:=ih (by omega)
  rw [show (101:Int) - (k:Nat)=101 - ((k+1:Nat):Int)+1 by omega] at h
  exact xbo hT hTn (U1 k) _ (by omega) h s hs
end
end
section
open Go.RowKit
def Yd(name:ByteArray)(l:List MTy):List TyI:=⟨0,name,l.length⟩::l.flatMap MTy.items
def accN(name:ByteArray)(l:List MTy)(k:Nat):List TyI:=⟨0,name,l.length⟩::(l.take k).flatMap MTy.items
theorem accN_zero(name:ByteArray)(l:List MTy):accN name l 0=[⟨0,name,l.length⟩]:=rfl
theorem VO(name:ByteArray)(l:List MTy){k:Nat}(h:k<l.length):accN name l (k+1)=accN name l k++l[k].items:=by
 unfold accN;rw [List.take_succ_eq_append_getElem h,List.flatMap_append];simp
theorem accN_le(name:ByteArray)(l:List MTy)(hi:∀ t∈l,t.items.length<=100000):∀ k,k<=l.length->(accN name l k).length<=1+100000*k
 | 0,_=>by simp [accN]
 | k+1,h=>by
  have:=accN_le name l hi k (by omega)
  have h2:=hi _ (List.getElem_mem (show k<l.length from h));rw [VO name l h,List.length_append];omega
theorem UQ(name:ByteArray)(l:List MTy)(hl:l.length<=2)(hi:∀ t∈l,t.items.length<=100000):FT 242 [.s (.string name),.sl 1 (l.map MTy.enc)] (fun r _=>r=.ag [.osl 159 3 ((Yd name l).map TyI.own)]):=by
 have hall:accN name l l.length=Yd name l:=by unfold accN Yd;rw [List.take_length]
 refine FI PM Tryz.func242 Tryz.ntmps242 [(5,7,[],[],(lin [] [0,1,2,3,4,5,6]))] rfl rfl ?_
 (have hWf:=f0;repeat' (first|refine zS ?_|refine zI ?_ ?_|exact zF0|refine zD fun hb=>?_|exact zC|refine zT ?_|fail))
 refine xn (fun n σ=>∃ k na:Nat,na=(accN name l k).length/\k<=l.length/\n=l.length - k/\σ.t 1=.sl 1 (l.map MTy.enc)/\σ.t 4=.bx 4 0/\σ.b 4=some (.box [.nil])/\σ.t 5=.bx 5 0/\σ.b 5=some (.box [.bs 11 3 na])/\σ.b 11=some (.arr 159 3 ((accN name l k).map TyI.own))/\σ.t 14=.s (.int .i64 l.length)/\σ.t 15=.s (.int .i64 k)) l.length ⟨0,1,rfl,by omega,by omega,?_⟩ ?_
 .simp only [go_sem,simprocAttr,Int.natCast_zero,accN_zero,TyI.own_eq]
 .rintro n σ ⟨k,na,hna,hk,rfl,h1,h4,hb4,h5,hb5,hb11,h14,h15⟩ K' hK
  by_cases hlt:k<l.length
  .have hx:=xi MTy.enc l k hlt
   have he:=MTy.enc_eq l[k];have e3:=VO name l hlt;have hle:=accN_le name l hi (k+1) hlt;rw [e3,List.length_append,<- hna] at hle
   have hk3:1+100000*(k+1)<=1000000:=by omega
   have hle:=Nat.le_trans hle hk3;have hlen:((accN name l k).map TyI.own).length=na:=by rw [List.length_map,hna]
   obtain ⟨its,hits⟩:∃ its,l[k].items=its:=⟨_,rfl⟩;rw [hits] at he e3 hle
   clear hits;have hnew:na+its.length=(accN name l (k+1)).length:=by rw [e3,List.length_append,<- hna]
   have e3:=congrArg (List.map TyI.own) e3;rw [List.map_append] at e3
   obtain ⟨ak,hak⟩:∃ ak,(accN name l k).map TyI.own=ak:=⟨_,rfl⟩;rw [hak] at hlen e3 hb11
   have e3:=Lib.hid e3;have hnew:=Lib.hid hnew;clear hak hna hk3
   (have hWf:=w10 @h1 @h4 @hb4 @h5 @hb5 @hb11 @h14 @h15 @hx (ai @he<|@hlen);repeat' (first|refine zS ?_|refine zI ?_ ?_|exact zF0|refine zD fun hb=>?_|exact zC|refine zT ?_|fail))
   refine hK (l.length - (k+1)) _ (by omega) ⟨k+1,na+its.length,hnew.out,by omega,rfl,?_⟩
   simp only [go_sem,simprocAttr,h1,h4,hb4,h5,hb5,hb11,h14,h15,Int.natCast_succ,e3.out]
  .obtain rfl:k=l.length:=by omega
   rw [hall] at hb11 hna
   (have hWf:=w9 @h1 @h4 @hb4 @h5 @hb5 @hb11 @h14 @h15 @hna;repeat' (first|refine zS ?_|refine zI ?_ ?_|exact zF0|refine zD fun hb=>?_|exact zC|refine zT ?_|fail))
theorem xaZ(name:ByteArray):FT 242 [.s (.string name),.nil] (fun r _=>r=.ag [.osl 159 3 ([(⟨0,name,0⟩:TyI)].map TyI.own)]):=by
 refine FI PM Tryz.func242 Tryz.ntmps242 [(5,7,[],[],(lin [] [0,1,2,3,4,5,6]))] rfl rfl ?_
 (have hWf:=f0;repeat' (first|refine zS ?_|refine zI ?_ ?_|exact zF0|refine zD fun hb=>?_|exact zC|refine zT ?_|fail))
 refine xn (fun n σ=>n=0/\σ.t 4=.bx 4 0/\σ.b 4=some (.box [.nil])/\σ.t 5=.bx 5 0/\σ.b 5=some (.box [.bs 11 3 1])/\σ.b 11=some (.arr 159 3 ([(⟨0,name,0⟩:TyI)].map TyI.own))/\σ.t 14=.s (.int .i64 0)/\σ.t 15=.s (.int .i64 0)) 0 ⟨rfl,?_⟩ ?_
 .simp only [go_sem,simprocAttr,TyI.own_eq]
 .rintro n σ ⟨rfl,h4,hb4,h5,hb5,hb11,h14,h15⟩ K' hK
  (have hWf:=w7 @h4 @hb4 @h5 @hb5 @hb11 @h14 @h15;repeat' (first|refine zS ?_|refine zI ?_ ?_|exact zF0|refine zD fun hb=>?_|exact zC|refine zT ?_|fail))
theorem FCon.tyNil{P:Program}{f:FuncId}{args:List D}{o:List D}(h:FCon P f args (fun r o'=>r=.ag [.nil]/\o'=o)):FCon P f args (fun r o'=>r=.ag [.osl 159 3 []]/\o'=o):=h.wk fun r o' e=>by
 obtain ⟨rfl,rfl⟩:=e;refine ⟨_,⟨rfl,rfl⟩,fun g w v q=>?_⟩
 obtain ⟨us,rfl,hl,hc⟩:=q;refine ⟨us,rfl,by simpa using hl,fun l x u hx hu=>?_⟩
 match l,hx with
 | 0,hx=>exact (by simpa using hx) ▸ Rep.nil_osl 159 3 (hc 0 _ u rfl hu)
theorem named_ty1(name:ByteArray)(a:List TyI):Yd name [⟨a⟩]=ty1 name [a]:=by simp [Yd,ty1]
theorem named_ty2(name:ByteArray)(a b:List TyI):Yd name [⟨a⟩,⟨b⟩]=ty1 name [a,b]:=by simp [Yd,ty1]
theorem c_named1(name:ByteArray)(a:List TyI)(ha:a.length<=100000):FT 242 [.s (.string name),.sl 1 [[.sl 3 (a.map TyI.enc)]]] (fun r _=>r=.ag [.osl 159 3 ((ty1 name [a]).map TyI.own)]):=by
 have:=UQ name [⟨a⟩] (by simp) (by simpa using ha)
 rw [named_ty1] at this
 exact this
theorem W5(name:ByteArray)(a b:List TyI)(ha:a.length<=100000)(hb:b.length<=100000):FT 242 [.s (.string name),.sl 1 [[.sl 3 (a.map TyI.enc)],[.sl 3 (b.map TyI.enc)]]] (fun r _=>r=.ag [.osl 159 3 ((ty1 name [a,b]).map TyI.own)]):=by
 have:=UQ name [⟨a⟩,⟨b⟩] (by simp) (by simpa using ⟨ha,hb⟩)
 rw [named_ty2] at this
 exact this
theorem xa1(T:List MTok)(e:Int)(s:PS)(hT:T.length<=10000)(h:tywT (tokS T e s)=true):FT 261 [.opt (rdD T e s)] (fun r o=>r=.s (.string (tokS T e s).s)/\o=[.opt (rdD T e (advS s))]):=by
 have ht:=xp T e s;have hw:=WO T e s;rw [h] at hw
 have hl:=(xS (UB h)).2;unfold advS;generalize tokS T e s=t at *
 rw [xh,MTok.enc_eq] at ht
 rw [xh] at hw
 rw [xb,xb];refine FI PM Tryz.func261 Tryz.ntmps261 [] rfl rfl ?_
 (have hWf:=w2 @xe @xd;repeat' (first|refine zS ?_|refine zI ?_ ?_|refine zK ht ?_|refine zK hw ?_|exact zF0|refine zD fun hb=>?_|exact zC|refine zT ?_|fail))
 all_goals rfl
theorem xbU(v:Int)(l:List Int):∀ (k q r:Nat),k<l.length->ww v (l.take (k+1)) q r=if l.getD k 0=v then q+k else ww v (l.take k) q r:=by
 induction l with
 | nil=>intro k q r h;simp at h
 | cons x l ih=>
  intro k q r h;cases k with
  | zero=>
   simp only [List.take_succ_cons,List.take_zero,ww,List.getD_cons_zero,Nat.add_zero]
  | succ k=>
   rw [List.take_succ_cons,List.take_succ_cons,ww,ww,ih k _ _ (by simpa using h),List.getD_cons_succ]
   split
   .omega
   .rfl
theorem V6(v:Int)(l:List Int)(k:Nat)(h:k<l.length):(l.take (k+1)).contains v=((l.take k).contains v||(l[k]==v)):=by
 rw [X3,X3,Y0 _ l h]
def CTy(T:List MTok)(e:Int)(R:PS->List TyI×PS)(d:Int):Prop:=∀ s:PS,s.i<=T.length->s.vars.length<=1000->FT 202 [.opt (rdD T e s),.s (.int .i64 d)] (fun r o=>r=.ag [.osl 159 3 ((R s).1.map TyI.own)]/\o=[.opt (rdD T e (R s).2),.un])
section
variable {T:List MTok} {e:Int} {R:PS->List TyI×PS}
theorem atom0_var(hT:T.length<=10000)(d:Int)(s:PS)(hs:s.i<=T.length)(hv:s.vars.length<=1000)(h5:(tokS T e s).kind=5):FT 259 [.opt (rdD T e s),.s (.int .i64 d)] (fun r o=>r=.ag [.osl 159 3 ((yr T e R s).1.map TyI.own)]/\o=[.opt (rdD T e (yr T e R s).2),.un]):=by
 have ht:=xp T e s;have hf:=y3 T e s 7;have hlt0:=(xS (by rw [h5];decide)).2
 have hd:yr T e R s=if s.vars.contains (tokS T e s).n=true then ([⟨(ww (tokS T e s).n s.vars 0 0:Nat),nS,0⟩],advS s) else ([],xG T e s 7):=by unfold yr;rw [if_pos h5]
 rw [hd];clear hd;generalize tokS T e s=t at *
 have f5:=kT h5;rw [MTok.enc_eq,xh] at ht
 have hcon:s.vars.contains t.n=(s.vars.take s.vars.length).contains t.n:=by rw [List.take_length]
 by_cases hc:s.vars.contains t.n=true
 .rw [if_pos hc]
  show FCon _ _ _ (fun r o=>r=.ag [.osl 159 3 [[.s (.int .i64 (ww t.n s.vars 0 0:Nat)),.s (.string nS),.s (.int .i64 0)]]]/\o=[.opt (rdD T e (advS s)),.un])
  unfold advS;rw [xb,xb];refine FI PM Tryz.func259 Tryz.ntmps259 [] rfl rfl ?_
  (have hWf:=w3 @xe @xd @f5;repeat' (first|refine zS ?_|refine zI ?_ ?_|refine zK ht ?_|exact zF0|refine zD fun hb=>?_|exact zC|refine zT ?_|fail))
  refine xn (fun n σ=>∃ k:Nat,k<=s.vars.length/\n=s.vars.length - k/\σ.t 0=.bx 900000 0/\σ.b 900000=some (.box [.sl 4 (T.map MTok.enc),.s (.int .i64 s.i),.s (.int .i64 e),.s (.int .i64 s.code),.s (.int .i64 s.at_),.sl 1 (s.vars.map iE),.bs 7900000 1 s.seen.length])/\σ.b 7900000=some (.arr 9 1 (s.seen.map stE))/\σ.t 4=.bx 4 0/\σ.b 4=some (.box [.nil])/\σ.t 5=.bx 5 0/\σ.b 5=some (.box [.s (.int .i64 t.kind),.s (.int .i64 t.n),.s (.string t.s),.s (.int .i64 t.at_)])/\σ.t 6=.s (.bool ((s.vars.take k).contains t.n))/\σ.t 23=.sl 1 (s.vars.map iE)/\σ.t 24=.s (.int .i64 s.vars.length)/\σ.t 25=.s (.int .i64 k)) s.vars.length ⟨0,by omega,by omega,?_⟩ ?_
  .simp only [go_sem,simprocAttr,Int.natCast_zero,List.take_zero]
   all_goals rfl
  .rintro n σ ⟨k,hk,rfl,h0,b0,b7,h4,b4,h5',b5,h6,h23,h24,h25⟩ K' hK
   by_cases hlt:k<s.vars.length
   .have hx:=xi iE s.vars k hlt
    have he:iE s.vars[k]=[.s (.int .i64 s.vars[k])]:=rfl;have hct:=V6 t.n s.vars k hlt;rcases Bool.eq_false_or_eq_true (s.vars[k]==t.n) with qn|qn
    .rw [qn,Bool.or_true] at hct
     (have hWf:=w10 @h0 @b0 @b7 @h4 @b4 @h5' @b5 @h6 @h23 (ai @h24<|ai @h25<|ai @hx<|ai @he<|@qn);repeat' (first|refine zS ?_|refine zI ?_ ?_|exact zF0|refine zD fun hb=>?_|exact zC|refine zT ?_|fail))
     refine hK (s.vars.length - (k+1)) _ (by omega) ⟨k+1,by omega,rfl,?_⟩
     simp only [go_sem,simprocAttr,h0,b0,b7,h4,b4,h5',b5,h6,h23,h24,h25,Int.natCast_succ,hct]
    .rw [qn,Bool.or_false] at hct
     (have hWf:=w10 @h0 @b0 @b7 @h4 @b4 @h5' @b5 @h6 @h23 (ai @h24<|ai @h25<|ai @hx<|ai @he<|@qn);repeat' (first|refine zS ?_|refine zI ?_ ?_|exact zF0|refine zD fun hb=>?_|exact zC|refine zT ?_|fail))
     refine hK (s.vars.length - (k+1)) _ (by omega) ⟨k+1,by omega,rfl,?_⟩
     simp only [go_sem,simprocAttr,h0,b0,b7,h4,b4,h5',b5,h6,h23,h24,h25,Int.natCast_succ,hct]
   .obtain rfl:k=s.vars.length:=by omega
    rw [List.take_length,hc] at h6
    (have hWf:=w10 @h0 @b0 @b7 @h4 @b4 @h5' @b5 @h6 @h23 (ai @h24<|@h25);repeat' (first|refine zS ?_|refine zI ?_ ?_|exact zF0|refine zD fun hb=>?_|exact zC|refine zT ?_|fail))
    refine xn (fun n σ=>∃ k:Nat,k<=s.vars.length/\n=s.vars.length - k/\σ.t 0=.bx 900000 0/\σ.b 900000=some (.box [.sl 4 (T.map MTok.enc),.s (.int .i64 (s.i+1)),.s (.int .i64 e),.s (.int .i64 s.code),.s (.int .i64 s.at_),.sl 1 (s.vars.map iE),.bs 7900000 1 s.seen.length])/\σ.b 7900000=some (.arr 9 1 (s.seen.map stE))/\σ.t 4=.bx 4 0/\σ.b 4=some (.box [.nil])/\σ.t 5=.bx 5 0/\σ.b 5=some (.box [.s (.int .i64 t.kind),.s (.int .i64 t.n),.s (.string t.s),.s (.int .i64 t.at_)])/\σ.t 9=.bx 9 0/\σ.b 9=some (.box [.bs 47 3 1])/\σ.b 47=some (.arr 159 3 [[.s (.int .i64 (ww t.n (s.vars.take k) 0 0:Nat)),.s (.string nS),.s (.int .i64 0)]])/\σ.t 52=.sl 1 (s.vars.map iE)/\σ.t 53=.s (.int .i64 s.vars.length)/\σ.t 54=.s (.int .i64 k)) s.vars.length ⟨0,by omega,by omega,?_⟩ ?_
    .simp only [go_sem,simprocAttr,h0,b0,b7,h4,b4,h5',b5,Int.natCast_zero,List.take_zero,ww]
     all_goals rfl
    .rintro n σ ⟨k,hk,rfl,h0,b0,b7,h4,b4,h5',b5,h9,b9,b47,h52,h53,h54⟩ K'' hK'
     by_cases hlt:k<s.vars.length
     .have hx:=xi iE s.vars k hlt
      have he:iE s.vars[k]=[.s (.int .i64 s.vars[k])]:=rfl;have hla:=xbU t.n s.vars k 0 0 hlt;rw [List.getD_eq_getElem?_getD,List.getElem?_eq_getElem hlt,Option.getD_some,Nat.zero_add] at hla
      by_cases zn:s.vars[k]=t.n
      .rw [if_pos zn] at hla
       have qn:=kT zn
       (have hWf:=w10 @h0 @b0 @b7 @h4 @b4 @h5' @b5 @h9 @b9 (ai @b47<|ai @h52<|ai @h53<|ai @h54<|ai @hx<|ai @he<|@qn);repeat' (first|refine zS ?_|refine zI ?_ ?_|exact zF0|refine zD fun hb=>?_|exact zC|refine zT ?_|fail))
       refine hK' (s.vars.length - (k+1)) _ (by omega) ⟨k+1,by omega,rfl,?_⟩
       simp only [go_sem,simprocAttr,h0,b0,b7,h4,b4,h5',b5,h9,b9,b47,h52,h53,h54,Int.natCast_succ,hla]
       all_goals rfl
      .rw [if_neg zn] at hla
       have qn:=kF zn
       (have hWf:=w10 @h0 @b0 @b7 @h4 @b4 @h5' @b5 @h9 @b9 (ai @b47<|ai @h52<|ai @h53<|ai @h54<|ai @hx<|ai @he<|@qn);repeat' (first|refine zS ?_|refine zI ?_ ?_|exact zF0|refine zD fun hb=>?_|exact zC|refine zT ?_|fail))
       refine hK' (s.vars.length - (k+1)) _ (by omega) ⟨k+1,by omega,rfl,?_⟩
       simp only [go_sem,simprocAttr,h0,b0,b7,h4,b4,h5',b5,h9,b9,b47,h52,h53,h54,Int.natCast_succ,hla]
     .obtain rfl:k=s.vars.length:=by omega
      rw [List.take_length] at b47
      (have hWf:=w10 @h0 @b0 @b7 @h4 @b4 @h5' @b5 @h9 @b9 (ai @b47<|ai @h52<|ai @h53<|@h54);repeat' (first|refine zS ?_|refine zI ?_ ?_|exact zF0|refine zD fun hb=>?_|exact zC|refine zT ?_|fail))
      all_goals rfl
 .have hcf:s.vars.contains t.n=false:=by simpa using hc
  rw [if_neg hc];show FCon _ _ _ (fun r o=>r=.ag [.osl 159 3 []]/\o=[.opt (rdD T e (xG T e s 7)),.un])
  refine FCon.tyNil ?_;rw [xb,xb] at hf
  rw [xb,xb];refine FI PM Tryz.func259 Tryz.ntmps259 [] rfl rfl ?_
  (have hWf:=w3 @xe @xd @f5;repeat' (first|refine zS ?_|refine zI ?_ ?_|refine zK ht ?_|exact zF0|refine zD fun hb=>?_|exact zC|refine zT ?_|fail))
  refine xn (fun n σ=>∃ k:Nat,k<=s.vars.length/\n=s.vars.length - k/\σ.t 0=.bx 900000 0/\σ.b 900000=some (.box [.sl 4 (T.map MTok.enc),.s (.int .i64 s.i),.s (.int .i64 e),.s (.int .i64 s.code),.s (.int .i64 s.at_),.sl 1 (s.vars.map iE),.bs 7900000 1 s.seen.length])/\σ.b 7900000=some (.arr 9 1 (s.seen.map stE))/\σ.t 4=.bx 4 0/\σ.b 4=some (.box [.nil])/\σ.t 5=.bx 5 0/\σ.b 5=some (.box [.s (.int .i64 t.kind),.s (.int .i64 t.n),.s (.string t.s),.s (.int .i64 t.at_)])/\σ.t 6=.s (.bool ((s.vars.take k).contains t.n))/\σ.t 23=.sl 1 (s.vars.map iE)/\σ.t 24=.s (.int .i64 s.vars.length)/\σ.t 25=.s (.int .i64 k)) s.vars.length ⟨0,by omega,by omega,?_⟩ ?_
  .simp only [go_sem,simprocAttr,Int.natCast_zero,List.take_zero]
   all_goals rfl
  .rintro n σ ⟨k,hk,rfl,h0,b0,b7,h4,b4,h5',b5,h6,h23,h24,h25⟩ K' hK
   by_cases hlt:k<s.vars.length
   .have hx:=xi iE s.vars k hlt
    have he:iE s.vars[k]=[.s (.int .i64 s.vars[k])]:=rfl;have hct:=V6 t.n s.vars k hlt;rcases Bool.eq_false_or_eq_true (s.vars[k]==t.n) with qn|qn
    .rw [qn,Bool.or_true] at hct
     (have hWf:=w10 @h0 @b0 @b7 @h4 @b4 @h5' @b5 @h6 @h23 (ai @h24<|ai @h25<|ai @hx<|ai @he<|@qn);repeat' (first|refine zS ?_|refine zI ?_ ?_|exact zF0|refine zD fun hb=>?_|exact zC|refine zT ?_|fail))
     refine hK (s.vars.length - (k+1)) _ (by omega) ⟨k+1,by omega,rfl,?_⟩
     simp only [go_sem,simprocAttr,h0,b0,b7,h4,b4,h5',b5,h6,h23,h24,h25,Int.natCast_succ,hct]
    .rw [qn,Bool.or_false] at hct
     (have hWf:=w10 @h0 @b0 @b7 @h4 @b4 @h5' @b5 @h6 @h23 (ai @h24<|ai @h25<|ai @hx<|ai @he<|@qn);repeat' (first|refine zS ?_|refine zI ?_ ?_|exact zF0|refine zD fun hb=>?_|exact zC|refine zT ?_|fail))
     refine hK (s.vars.length - (k+1)) _ (by omega) ⟨k+1,by omega,rfl,?_⟩
     simp only [go_sem,simprocAttr,h0,b0,b7,h4,b4,h5',b5,h6,h23,h24,h25,Int.natCast_succ,hct]
   .obtain rfl:k=s.vars.length:=by omega
    rw [List.take_length,hcf] at h6
    (have hWf:=w10 @h0 @b0 @b7 @h4 @b4 @h5' @b5 @h6 @h23 (ai @h24<|@h25);repeat' (first|refine zS ?_|refine zI ?_ ?_|refine zH hf ?_|exact zF0|refine zD fun hb=>?_|exact zC|refine zT ?_|fail))
    all_goals rfl
theorem wT(l:List TyI):xU (l.map TyI.own)=l.map TyI.enc:=TyI.frzS l
theorem xbq(hT:T.length<=10000)(d:Int)(hd0:0<=d)(hd1:d<=1000)(hR:CTy T e R (d+1))(hb:∀ s,Bd T s (R s).2 (R s).1.length)(hvv:∀ s,(R s).2.vars=s.vars)(s:PS)(hs:s.i<=T.length)(hv:s.vars.length<=1000):FT 259 [.opt (rdD T e s),.s (.int .i64 d)] (fun r o=>r=.ag [.osl 159 3 ((yr T e R s).1.map TyI.own)]/\o=[.opt (rdD T e (yr T e R s).2),.un]):=by
 by_cases h5:(tokS T e s).kind=5
 .exact atom0_var hT d s hs hv h5
 have f5:=kF h5;have ht:=xp T e s
 by_cases h3:(tokS T e s).kind=3
 .have hlt0:=(xS (by rw [h3];decide)).2
  rw [show yr T e R s=(ty1 (tokS T e s).s [],advS s) by unfold yr;rw [if_neg h5,if_pos h3]]
  have f3:=kT h3;have hn:=xaZ (tokS T e s).s;generalize tokS T e s=t at *
  rw [MTok.enc_eq,xh] at ht
  show FCon _ _ _ (fun r o=>r=.ag [.osl 159 3 ([(⟨0,t.s,0⟩:TyI)].map TyI.own)]/\o=[.opt (rdD T e (advS s)),.un])
  unfold advS;rw [xb,xb];refine FI PM Tryz.func259 Tryz.ntmps259 [] rfl rfl ?_
  (have hWf:=w4 @xe @xd @f5 @f3;repeat' (first|refine zS ?_|refine zI ?_ ?_|refine zK ht ?_|refine zK hn ?_|exact zF0|refine zD fun hb=>?_|exact zC|refine zT ?_|fail))
  all_goals rfl
 have f3:=kF h3;have b0:=ui (T:=T) (e:=e) s (xa (l:=[40]) (by simp))
 have c0:=xI T e s (by omega) (⟨#[40]⟩:ByteArray) (xa (l:=[40]) (by simp))
 have hr1:=hR (xf T e s (⟨#[40]⟩:ByteArray)) (b0.2 hs) (by rw [zO];exact hv)
 have b1:=hb (xf T e s (⟨#[40]⟩:ByteArray));have v1:=hvv (xf T e s (⟨#[40]⟩:ByteArray));rw [zO] at v1
 have hd:yr T e R s=match R (xf T e s (⟨#[40]⟩:ByteArray)) with
  | (a,s1)=>if isS T e s1 (⟨#[44]⟩:ByteArray)=true then (match R (advS s1) with
    | (b,s2)=>match xt T e (xf T e s2 (⟨#[41]⟩:ByteArray)) 3 with
     | (nm,s3)=>(ty1 nm [a,b],s3))
   else (a,xf T e s1 (⟨#[41]⟩:ByteArray)):=by unfold yr;rw [if_neg h5,if_neg h3]
 rw [hd];clear hd;have hi1:=b0.2 hs;generalize xf T e s (⟨#[40]⟩:ByteArray)=s0 at *
 generalize tokS T e s=t at *
 rcases hq:R s0 with ⟨a,s1⟩
 rw [hq] at hr1 b1 v1
 simp only at hr1 b1 v1 ⊢
 have his:=xD T e s1 (⟨#[44]⟩:ByteArray);have hi2:=b1.2 hi1;have hal:=b1.1;rw [MTok.enc_eq,xh] at ht
 cases hc:isS T e s1 (⟨#[44]⟩:ByteArray) with
 | true=>
  have bc:=ve hc (xa (l:=[44]) (by simp))
  have hlt1:=(xA hc (xa (l:=[44]) (by simp))).2
  rw [hc] at his
  have hr2:=hR (advS s1) (bc.2 hi2) (by rw [vU,v1];exact hv)
  have b2:=hb (advS s1);rw [if_pos rfl];rcases hq2:R (advS s1) with ⟨b,s2⟩
  rw [hq2] at hr2 b2
  simp only at hr2 b2 ⊢
  have hi3:=b2.2 (bc.2 hi2);have hbl:=b2.1;have c2:=xI T e s2 (by omega) (⟨#[41]⟩:ByteArray) (xa (l:=[41]) (by simp))
  have hi4:=(ui (T:=T) (e:=e) s2 (xa (l:=[41]) (by simp))).2 hi3
  generalize xf T e s2 (⟨#[41]⟩:ByteArray)=s3 at *
  have c3:=yO T e s3 (by omega) 3 (by decide)
  rcases hq3:xt T e s3 3 with ⟨nm,s4⟩
  rw [hq3] at c3
  simp only at c3 ⊢
  have hn:=W5 nm a b (by omega) (by omega)
  unfold advS at hr2
  rw [xb,xb] at hr1 hr2 c0 c2 c3
  rw [xh] at his
  rw [xb,xb];refine FI PM Tryz.func259 Tryz.ntmps259 [] rfl rfl ?_
  (have hWf:=w5 @xe @xd @wT @f5 @f3;repeat' (first|refine zS ?_|refine zI ?_ ?_|refine zK ht ?_|refine zH c0 ?_|refine zH hr1 ?_|refine zK his ?_|refine zH hr2 ?_|refine zH c2 ?_|refine zH c3 ?_|refine zK hn ?_|exact zF0|refine zD fun hb=>?_|exact zC|refine zT ?_|fail))
  all_goals rfl
 | false=>
  rw [hc] at his
  rw [if_neg (by decide)]
  have c2:=xI T e s1 (by omega) (⟨#[41]⟩:ByteArray) (xa (l:=[41]) (by simp))
  generalize xf T e s1 (⟨#[41]⟩:ByteArray)=s3 at *
  rw [xb,xb] at hr1 c0 c2
  rw [xh] at his
  rw [xb,xb];refine FI PM Tryz.func259 Tryz.ntmps259 [] rfl rfl ?_
  (have hWf:=w5 @xe @xd @wT @f5 @f3;repeat' (first|refine zS ?_|refine zI ?_ ?_|refine zK ht ?_|refine zH c0 ?_|refine zH hr1 ?_|refine zK his ?_|refine zH c2 ?_|exact zF0|refine zD fun hb=>?_|exact zC|refine zT ?_|fail))
  all_goals rfl
theorem FCon.tyIce{P:Program}{f:FuncId}{args:List D}{o:List D}{a:List TyI}(h:FCon P f args (fun r o'=>r=.ag [.osl 159 3 (a.map TyI.own)]/\o'=o)):FCon P f args (fun r o'=>r=.ag [.sl 3 (a.map TyI.enc)]/\o'=o):=h.frz.mono fun r o' e=>by
 obtain ⟨r0,⟨rfl,rfl⟩,rfl⟩:=e;refine ⟨?_,rfl⟩;show D.ag [D.sl 3 (xU (a.map TyI.own))]=_;rw [wT]
theorem appl_stop{n:Nat}{a:List TyI}{s:PS}(h:¬ (s.code=0/\tywT (tokS T e s)=true)):yS T e (n+1) a s=(a,s):=by unfold yS;rw [if_neg h]
theorem appl_go{n:Nat}{a:List TyI}{s:PS}(h:s.code=0/\tywT (tokS T e s)=true):yS T e (n+1) a s=yS T e n (ty1 (tokS T e s).s [a]) (advS s):=by
 conv=>lhs;unfold yS
 rw [if_pos h]
theorem c_l03Prod(hT:T.length<=10000)(d:Int)(hd0:0<=d)(hd1:d<=1000)(hR:CTy T e R (d+1))(hb:∀ s,Bd T s (R s).2 (R s).1.length)(hvv:∀ s,(R s).2.vars=s.vars):∀ (n:Nat) (s:PS),T.length - s.i<n->s.i<=T.length->s.vars.length<=1000->FT 241 [.opt (rdD T e s),.s (.int .i64 d)] (fun r o=>r=.ag [.osl 159 3 ((y7 T e R n s).1.map TyI.own)]/\o=[.opt (rdD T e (y7 T e R n s).2),.un]):=fun n=>by
 induction n with
 | zero=>intro s h;omega
 | succ n ih=>
  intro s hn hs hv;have ca:=xbq hT d hd0 hd1 hR hb hvv s hs hv;have b0:=QT hb (e:=e) s;have v0:=Y2 hvv (T:=T) (e:=e) s
  conv=>rhs;unfold y7
  rcases hq0:yr T e R s with ⟨a0,s0⟩
  rw [hq0] at ca b0 v0
  simp only at ca b0 v0 ⊢
  have bA:=appl_bd (T:=T) (e:=e) (T.length+1) a0 s0;have vA:=ZB (T:=T) (e:=e) (T.length+1) a0 s0;rcases hqA:yS T e (T.length+1) a0 s0 with ⟨a,s1⟩
  rw [hqA] at bA vA
  simp only at bA vA ⊢
  have hi0:=b0.2 hs;have hi1:=bA.2.1 hi0;have hal:=b0.1;have hal1:=bA.1;have hv1:s1.vars.length<=1000:=by rw [vA,v0];exact hv
  have hge:s.i<=s1.i:=by have:=bA.2.2;omega
  obtain ⟨F,hF⟩:∃ F,F=(if isS T e s1 (⟨#[42]⟩:ByteArray)=true then (match y7 T e R n (advS s1) with
     | (b,s2)=>(ty1 (⟨#[42]⟩:ByteArray) [a,b],s2)) else (a,s1)):=⟨_,rfl⟩
  rw [<- hF];rw [xb,xb] at ca
  rw [xb];refine FI PM Tryz.func241 Tryz.ntmps241 [(3,4,[1],[(1,2),(1,3)],(lin [1] [0,2,3,1])),(6,4,[3],[(3,0)],(lin [3] [0,1,2,3]))] rfl rfl ?_
  (have hWf:=w2 @xe @xd;repeat' (first|refine zS ?_|refine zI ?_ ?_|refine zH ca ?_|exact zF0|refine zD fun hb=>?_|exact zC|refine zT ?_|fail))
  refine xn (fun n σ=>∃ (j nm:Nat) (a':List TyI) (s':PS),(nm=1008\/nm=1022)/\n=T.length - s'.i/\T.length - s'.i<j/\s'.i<=T.length/\a'.length<=20000+s'.i/\yS T e j a' s'=(a,s1)/\σ.t 0=.bx 900000 0/\σ.b 900000=some (.box [.sl 4 (T.map MTok.enc),.s (.int .i64 s'.i),.s (.int .i64 e),.s (.int .i64 s'.code),.s (.int .i64 s'.at_),.sl 1 (s'.vars.map iE),.bs 7900000 1 s'.seen.length])/\σ.b 7900000=some (.arr 9 1 (s'.seen.map stE))/\σ.t 1=.s (.int .i64 d)/\σ.t 4=.bx 4 0/\σ.b 4=some (.box [.nil])/\σ.t 5=.bx 5 0/\σ.b 5=some (.box [.bs nm 3 a'.length])/\σ.b nm=some (.arr 159 3 (a'.map TyI.own))) (T.length - s0.i) ⟨T.length+1,1008,a0,s0,.inl rfl,rfl,by omega,hi0,by omega,hqA,?_⟩ ?_
  .simp only [go_sem,simprocAttr]
  .rintro m σ ⟨j,nm,a',s',hnm,rfl,hj,hsi,hal',hap,h0,b9,b7,h1,h4,b4,h5,b5,bn⟩ K' hK
   obtain ⟨j,rfl⟩:∃ q,j=q+1:=⟨j - 1,by omega⟩
   have htw:=WO T e s';rw [xh] at htw
   by_cases hc:s'.code=0/\tywT (tokS T e s')=true
   .rw [appl_go hc] at hap
    have hlt:=(xS (UB hc.2)).2;have f0:=kT hc.1;have htn:=xa1 T e s' (by omega) hc.2
    rw [hc.2] at htw
    have hnd:=c_named1 (tokS T e s').s a' (by omega)
    have hln:(ty1 (tokS T e s').s [a']).length=1+a'.length:=ty1_len _ _;unfold advS at htn
    rw [xb,xb] at htn
    refine z8 nm (.arr 159 3 (a'.map TyI.own)) bn rfl ?_;rcases hnm with rfl|rfl
    ·(have hWf:=w10 @h0 @b9 @b7 @h1 @h4 @b4 @h5 @b5 @bn (ai @xe<|ai @xd<|ai @wT<|@f0);repeat' (first|refine zS ?_|refine zI ?_ ?_|refine zK htw ?_|refine zX htn ?_|((with_reducible apply xc);refine xu (htn) ?_;rintro _ _ ⟨rfl,rfl⟩)|refine zK hnd ?_|exact zF0|refine zD fun hb=>?_|exact zC|refine zT ?_|fail))
     refine hK (T.length - (s'.i+1)) _ (by omega) ⟨j,1022,ty1 (tokS T e s').s [a'],advS s',.inr rfl,rfl,by show T.length - (s'.i+1)<j;omega,hlt,by rw [hln];show 1+a'.length<=20000+(s'.i+1);omega,hap,?_⟩
     simp only [go_sem,simprocAttr,h0,b9,b7,h1,h4,b4,h5,b5,bn,hln];exact ⟨rfl,rfl⟩
    ·(have hWf:=w10 @h0 @b9 @b7 @h1 @h4 @b4 @h5 @b5 @bn (ai @xe<|ai @xd<|ai @wT<|@f0);repeat' (first|refine zS ?_|refine zI ?_ ?_|refine zK htw ?_|refine zX htn ?_|((with_reducible apply xc);refine xu (htn) ?_;rintro _ _ ⟨rfl,rfl⟩)|refine zK hnd ?_|exact zF0|refine zD fun hb=>?_|exact zC|refine zT ?_|fail))
     refine hK (T.length - (s'.i+1)) _ (by omega) ⟨j,1022,ty1 (tokS T e s').s [a'],advS s',.inr rfl,rfl,by show T.length - (s'.i+1)<j;omega,hlt,by rw [hln];show 1+a'.length<=20000+(s'.i+1);omega,hap,?_⟩
     simp only [go_sem,simprocAttr,h0,b9,b7,h1,h4,b4,h5,b5,bn,hln];exact ⟨rfl,rfl⟩
   .rw [appl_stop hc] at hap
    injection hap with e1 e2
    subst e1 e2;have his:=xD T e s' (⟨#[42]⟩:ByteArray);rw [xh] at his
    cases hst:isS T e s' (⟨#[42]⟩:ByteArray) with
    | true=>
     have hlt:=xA hst (xa (l:=[42]) (by simp))
     have f0:=kT hlt.1;have htf:tywT (tokS T e s')=false:=by
      cases q:tywT (tokS T e s') with
      | false=>rfl
      | true=>exact absurd ⟨hlt.1,q⟩ hc
     rw [htf] at htw
     rw [hst] at his
     rw [if_pos hst] at hF
     have hp:=ih (advS s') (by show T.length - (s'.i+1)<n;omega) hlt.2 hv1
     have bp:=Vz hb (e:=e) n (advS s');rcases hqp:y7 T e R n (advS s') with ⟨b,s2⟩
     rw [hqp] at hp bp hF
     simp only at hp bp hF
     have hi2:=bp.2 hlt.2;have hbl:=bp.1;have hnd:=W5 (⟨#[42]⟩:ByteArray) a' b (by omega) (by omega)
     subst hF;unfold advS at hp
     rw [xb,xb] at hp
     show AC _ _ _ _ _ _;simp only [xb];refine z8 nm (.arr 159 3 (a'.map TyI.own)) bn rfl ?_;rcases hnm with rfl|rfl
     ·(have hWf:=w10 @h0 @b9 @b7 @h1 @h4 @b4 @h5 @b5 @bn (ai @xe<|ai @xd<|ai @wT<|@f0);repeat' (first|refine zS ?_|refine zI ?_ ?_|refine zK htw ?_|refine zK his ?_|refine zX hp ?_|((with_reducible apply xc);refine xu (hp) ?_;rintro _ _ ⟨rfl,rfl⟩)|refine zK hnd ?_|exact zF0|refine zD fun hb=>?_|exact zC|refine zT ?_|fail))
      all_goals rfl
     ·(have hWf:=w10 @h0 @b9 @b7 @h1 @h4 @b4 @h5 @b5 @bn (ai @xe<|ai @xd<|ai @wT<|@f0);repeat' (first|refine zS ?_|refine zI ?_ ?_|refine zK htw ?_|refine zK his ?_|refine zX hp ?_|((with_reducible apply xc);refine xu (hp) ?_;rintro _ _ ⟨rfl,rfl⟩)|refine zK hnd ?_|exact zF0|refine zD fun hb=>?_|exact zC|refine zT ?_|fail))
      all_goals rfl
    | false=>
     rw [hst] at his
     rw [if_neg (by rw [hst];decide)] at hF
     subst hF;show AC _ _ _ _ _ _;simp only [xb]
     by_cases z0:s'.code=0
     .have f0:=kT z0
      have htf:tywT (tokS T e s')=false:=by
       cases q:tywT (tokS T e s') with
       | false=>rfl
       | true=>exact absurd ⟨z0,q⟩ hc
      rw [htf] at htw
      rcases hnm with rfl|rfl
      ·(have hWf:=w10 @h0 @b9 @b7 @h1 @h4 @b4 @h5 @b5 @bn (ai @xe<|ai @xd<|@f0);repeat' (first|refine zS ?_|refine zI ?_ ?_|refine zK htw ?_|refine zK his ?_|exact zF0|refine zD fun hb=>?_|exact zC|refine zT ?_|fail))
       all_goals rfl
      ·(have hWf:=w10 @h0 @b9 @b7 @h1 @h4 @b4 @h5 @b5 @bn (ai @xe<|ai @xd<|@f0);repeat' (first|refine zS ?_|refine zI ?_ ?_|refine zK htw ?_|refine zK his ?_|exact zF0|refine zD fun hb=>?_|exact zC|refine zT ?_|fail))
       all_goals rfl
     .have f0:=kF z0
      rcases hnm with rfl|rfl
      ·(have hWf:=w10 @h0 @b9 @b7 @h1 @h4 @b4 @h5 @b5 @bn (ai @xe<|ai @xd<|@f0);repeat' (first|refine zS ?_|refine zI ?_ ?_|refine zK htw ?_|refine zK his ?_|exact zF0|refine zD fun hb=>?_|exact zC|refine zT ?_|fail))
       all_goals rfl
      ·(have hWf:=w10 @h0 @b9 @b7 @h1 @h4 @b4 @h5 @b5 @bn (ai @xe<|ai @xd<|@f0);repeat' (first|refine zS ?_|refine zI ?_ ?_|refine zK htw ?_|refine zK his ?_|exact zF0|refine zD fun hb=>?_|exact zC|refine zT ?_|fail))
       all_goals rfl
theorem xa2(hT:T.length<=10000)(d:Int)(hd0:0<=d)(hd1:d<=100)(hR:CTy T e R (d+1))(hb:∀ s,Bd T s (R s).2 (R s).1.length)(hvv:∀ s,(R s).2.vars=s.vars):CTy T e (wB T e R) d:=by
 intro s hs hv;have hdd:decide ((100:Int)<d)=false:=decide_eq_false (by omega)
 unfold wB
 by_cases z0:s.code=0
 .have f0:=knT z0
  rw [if_pos z0];have hp:=c_l03Prod hT d hd0 (by omega) hR hb hvv (T.length+1) s (by omega) hs hv
  have bp:=Vz hb (e:=e) (T.length+1) s;have vp:=Wb hvv (T:=T) (e:=e) (T.length+1) s;rcases hq:y7 T e R (T.length+1) s with ⟨a,s1⟩
  rw [hq] at hp bp vp
  simp only at hp bp vp ⊢
  have hi1:=bp.2 hs;have hal:=bp.1;have his:=xD T e s1 (⟨#[45,62]⟩:ByteArray);cases hst:isS T e s1 (⟨#[45,62]⟩:ByteArray) with
  | true=>
   have hlt:=xA hst (xa (l:=[45,62]) (by simp))
   rw [hst] at his
   rw [if_pos rfl];have hr:=hR (advS s1) hlt.2 (by rw [vU,vp];exact hv)
   have br:=hb (advS s1);rcases hqr:R (advS s1) with ⟨b,s2⟩
   rw [hqr] at hr br
   simp only at hr br ⊢
   have hi2:=br.2 hlt.2;have hbl:=br.1;have hnd:=W5 (⟨#[45,62]⟩:ByteArray) a b (by omega) (by omega)
   have hp:=hp.tyIce;unfold advS at hr
   rw [xb,xb] at hr hp
   rw [xh] at his
   rw [xb,xb];refine FI PM Tryz.func202 Tryz.ntmps202 [(9,5,[4],[(4,0)],(lin [4] [0,1,2,3,4]))] rfl rfl ?_
   (have hWf:=w5 @xe @xd @wT @f0 @hdd;repeat' (first|refine zS ?_|refine zI ?_ ?_|refine zH hp ?_|refine zK his ?_|refine zX hr ?_|((with_reducible apply xc);refine xu (hr) ?_;rintro _ _ ⟨rfl,rfl⟩)|refine zK hnd ?_|exact zF0|refine zD fun hb=>?_|exact zC|refine zT ?_|fail))
   all_goals rfl
  | false=>
   rw [hst] at his
   rw [if_neg (by decide)]
   rw [xb,xb] at hp
   rw [xh] at his
   rw [xb,xb];refine FI PM Tryz.func202 Tryz.ntmps202 [(9,5,[4],[(4,0)],(lin [4] [0,1,2,3,4]))] rfl rfl ?_
   (have hWf:=w5 @xe @xd @wT @f0 @hdd;repeat' (first|refine zS ?_|refine zI ?_ ?_|refine zH hp ?_|refine zK his ?_|exact zF0|refine zD fun hb=>?_|exact zC|refine zT ?_|fail))
   all_goals rfl
 .have f0:=knF z0
  rw [if_neg z0];show FCon _ _ _ (fun r o=>r=.ag [.osl 159 3 []]/\o=[.opt (rdD T e s),.un])
  refine FCon.tyNil ?_;rw [xb];refine FI PM Tryz.func202 Tryz.ntmps202 [(9,5,[4],[(4,0)],(lin [4] [0,1,2,3,4]))] rfl rfl ?_
  (have hWf:=w1 @f0;repeat' (first|refine zS ?_|refine zI ?_ ?_|exact zF0|refine zD fun hb=>?_|exact zC|refine zT ?_|fail))
  all_goals rfl
theorem xbu(hT:T.length<=10000):CTy T e (tyF T e 0) 101:=by
 intro s hs hv;unfold tyF
 by_cases z0:s.code=0
 .have f0:=knT z0
  rw [if_pos z0];have hb:=QC T e s hv;have hd:=ZL T e s (YW T e s);show FCon _ _ _ (fun r o=>r=.ag [.osl 159 3 []]/\o=[.opt (rdD T e (wl T e s (YW T e s))),.un])
  refine FCon.tyNil ?_;rw [xb,xb] at hd
  rw [xh] at hb
  rw [xb,xb];refine FI PM Tryz.func202 Tryz.ntmps202 [(9,5,[4],[(4,0)],(lin [4] [0,1,2,3,4]))] rfl rfl ?_
  (have hWf:=w3 @xe @xd @f0;repeat' (first|refine zS ?_|refine zI ?_ ?_|refine zK hb ?_|refine zH hd ?_|exact zF0|refine zD fun hb=>?_|exact zC|refine zT ?_|fail))
  all_goals rfl
 .have f0:=knF z0
  rw [if_neg z0];show FCon _ _ _ (fun r o=>r=.ag [.osl 159 3 []]/\o=[.opt (rdD T e s),.un])
  refine FCon.tyNil ?_;rw [xb];refine FI PM Tryz.func202 Tryz.ntmps202 [(9,5,[4],[(4,0)],(lin [4] [0,1,2,3,4]))] rfl rfl ?_
  (have hWf:=w1 @f0;repeat' (first|refine zS ?_|refine zI ?_ ?_|exact zF0|refine zD fun hb=>?_|exact zC|refine zT ?_|fail))
  all_goals rfl
theorem c_l03Ty(hT:T.length<=10000):∀ k:Nat,k<=101->CTy T e (tyF T e k) (101 - k):=fun k=>by
 induction k with
 | zero=>intro _;exact xbu hT
 | succ k ih=>
  intro hk;have:=xa2 (R:=tyF T e k) hT (101 - ((k+1:Nat):Int)) (by omega) (by omega) (by rw [show (101:Int) - ((k+1:Nat):Int)+1=101 - (k:Int) by omega];exact ih (by omega)) (ty_bd k) (VJ k)
  exact this
end
end
section
attribute [local go_sem] List.map_append
open Go.RowKit
def noV(s:PS):PS:=⟨s.i,s.code,s.at_,[],s.seen⟩
theorem head_none(T:List MTok)(e:Int)(hT:T.length<=10000)(s0:PS)(h1:isS T e (noV s0) (⟨#[40]⟩:ByteArray)=false)(h2:¬ (tokS T e (noV s0)).kind=5):FT 199 [.opt (rdD T e s0)] (fun r o=>r=.ag [.s (.string (yj T e s0).1.name),.s (.int .i64 (yj T e s0).1.params),.nil]/\o=[.opt (rdD T e (yj T e s0).2)]):=by
 have his:=xD T e (noV s0) (⟨#[40]⟩:ByteArray);have ht:=xp T e (noV s0);have hw:=yO T e (noV s0) (by omega) 3 (by decide)
 rw [h1] at his
 rw [show yj T e s0=(⟨(xt T e (noV s0) 3).1,0,[]⟩,(xt T e (noV s0) 3).2) by
  unfold yj;show (if isS T e (noV s0) _=true then _ else if (tokS T e (noV s0)).kind=5 then _ else _)=_
  rw [h1,if_neg (by decide),if_neg h2];rfl]
 have f5:=kF h2;generalize tokS T e (noV s0)=t at *
 have hv1:=zc (T:=T) (e:=e) (noV s0) 3;rcases hq:xt T e (noV s0) 3 with ⟨nm,s1⟩
 rw [hq] at hw hv1
 simp only at hw hv1 ⊢
 have hv1:s1.vars=[]:=hv1;unfold noV at *
 rw [xh] at his ht
 rw [MTok.enc_eq] at ht
 rw [xb,xb,hv1] at hw
 rw [xb,xb,hv1];refine FI PM Tryz.func199 Tryz.ntmps199 [(16,7,[6],[(6,0),(6,1),(6,2),(6,3),(6,4)],(lin [6] [0,1,2,3,4,5,6]))] rfl rfl ?_
 (refine xE ?_;simp only [go_sem,simprocAttr];(have hWf:=f0;repeat' (first|refine zY ?_|refine zI ?_ ?_|exact zF1|refine zD fun hb=>?_|exact zC|refine zT ?_|fail)))
 (refine xE ?_;simp only [go_sem,simprocAttr];(have hWf:=f0;repeat' (first|refine zY ?_|refine zI ?_ ?_|exact zF1|refine zD fun hb=>?_|exact zC|refine zT ?_|fail)))
 refine zJ 900000 5 777 (row:=[.sl 4 (T.map MTok.enc),.s (.int .i64 s0.i),.s (.int .i64 e),.s (.int .i64 s0.code),.s (.int .i64 s0.at_),.nil,.bs 7900000 1 s0.seen.length]) 3 1 (by simp only [go_sem,simprocAttr]) rfl (by decide) rfl (z8 777 (.arr 3 1 []) (by simp only [go_sem,simprocAttr]) rfl ?_)
 (have hWf:=w3 @xe @xd @f5;repeat' (first|refine zS ?_|refine zI ?_ ?_|refine zK his ?_|refine zK ht ?_|refine zX hw ?_|((with_reducible apply xc);refine xu (hw) ?_;rintro _ _ ⟨rfl,rfl⟩)|exact zF0|refine zD fun hb=>?_|exact zC|refine zT ?_|fail))
 all_goals rfl
theorem head_one(T:List MTok)(e:Int)(hT:T.length<=10000)(s0:PS)(h1:isS T e (noV s0) (⟨#[40]⟩:ByteArray)=false)(h2:(tokS T e (noV s0)).kind=5):FT 199 [.opt (rdD T e s0)] (fun r o=>r=.ag [.s (.string (yj T e s0).1.name),.s (.int .i64 (yj T e s0).1.params),.nil]/\o=[.opt (rdD T e (yj T e s0).2)]):=by
 have his:=xD T e (noV s0) (⟨#[40]⟩:ByteArray);have ht:=xp T e (noV s0);have hlt:=(xS (by rw [h2];decide)).2
 rw [h1] at his
 rw [show yj T e s0=(⟨(xt T e ⟨s0.i+1,s0.code,s0.at_,[(tokS T e (noV s0)).n],s0.seen⟩ 3).1,1,[]⟩,(xt T e ⟨s0.i+1,s0.code,s0.at_,[(tokS T e (noV s0)).n],s0.seen⟩ 3).2) by
  unfold yj;show (if isS T e (noV s0) _=true then _ else if (tokS T e (noV s0)).kind=5 then _ else _)=_
  rw [h1,if_neg (by decide),if_pos h2];rfl]
 have f5:=kT h2;generalize tokS T e (noV s0)=t at *
 have hw:=yO T e ⟨s0.i+1,s0.code,s0.at_,[t.n],s0.seen⟩ (by omega) 3 (by decide)
 have hlt:s0.i<T.length:=hlt;have hv1:=zc (T:=T) (e:=e) ⟨s0.i+1,s0.code,s0.at_,[t.n],s0.seen⟩ 3;rcases hq:xt T e ⟨s0.i+1,s0.code,s0.at_,[t.n],s0.seen⟩ 3 with ⟨nm,s1⟩
 rw [hq] at hw hv1
 simp only at hw hv1 ⊢
 unfold noV at *
 rw [xh] at his ht
 rw [MTok.enc_eq] at ht
 rw [xb,xb,hv1] at hw
 rw [xb,xb,hv1];refine FI PM Tryz.func199 Tryz.ntmps199 [(16,7,[6],[(6,0),(6,1),(6,2),(6,3),(6,4)],(lin [6] [0,1,2,3,4,5,6]))] rfl rfl ?_
 (refine xE ?_;simp only [go_sem,simprocAttr];(have hWf:=f0;repeat' (first|refine zY ?_|refine zI ?_ ?_|exact zF1|refine zD fun hb=>?_|exact zC|refine zT ?_|fail)))
 (refine xE ?_;simp only [go_sem,simprocAttr];(have hWf:=f0;repeat' (first|refine zY ?_|refine zI ?_ ?_|exact zF1|refine zD fun hb=>?_|exact zC|refine zT ?_|fail)))
 refine zJ 900000 5 777 (row:=[.sl 4 (T.map MTok.enc),.s (.int .i64 s0.i),.s (.int .i64 e),.s (.int .i64 s0.code),.s (.int .i64 s0.at_),.nil,.bs 7900000 1 s0.seen.length]) 3 1 (by simp only [go_sem,simprocAttr]) rfl (by decide) rfl (z8 777 (.arr 3 1 []) (by simp only [go_sem,simprocAttr]) rfl ?_)
 iterate 5 (refine xE ?_;simp only [go_sem,simprocAttr,xe,xd,f5];(have hWf:=w3 @xe @xd @f5;repeat' (first|refine zY ?_|refine zI ?_ ?_|refine zK his ?_|refine zK ht ?_|exact zF1|refine zD fun hb=>?_|exact zC|refine zT ?_|fail)))
 refine z8 57 (.arr 3 1 [[.s (.int .i64 t.n)]]) (by simp only [go_sem,simprocAttr]) rfl ?_
 (have hWf:=w3 @xe @xd @f5;repeat' (first|refine zS ?_|refine zI ?_ ?_|refine zK his ?_|refine zK ht ?_|refine zX hw ?_|((with_reducible apply xc);refine xu (hw) ?_;rintro _ _ ⟨rfl,rfl⟩)|exact zF0|refine zD fun hb=>?_|exact zC|refine zT ?_|fail))
 all_goals rfl
theorem head_two(T:List MTok)(e:Int)(hT:T.length<=10000)(s0:PS)(h1:isS T e (noV s0) (⟨#[40]⟩:ByteArray)=true):FT 199 [.opt (rdD T e s0)] (fun r o=>r=.ag [.s (.string (yj T e s0).1.name),.s (.int .i64 (yj T e s0).1.params),.nil]/\o=[.opt (rdD T e (yj T e s0).2)]):=by
 have his:=xD T e (noV s0) (⟨#[40]⟩:ByteArray);have hlt:=(xA h1 (xa (l:=[40]) (by simp))).2
 rw [h1] at his
 obtain ⟨s1,e1⟩:∃ q,q=advS (noV s0):=⟨_,rfl⟩;obtain ⟨a,ea⟩:∃ q,q=tokS T e s1:=⟨_,rfl⟩;obtain ⟨s2,e2⟩:∃ q,q=(xt T e s1 5).2:=⟨_,rfl⟩;obtain ⟨s3,e3⟩:∃ q,q=xf T e s2 (⟨#[44]⟩:ByteArray):=⟨_,rfl⟩;obtain ⟨b,eb⟩:∃ q,q=tokS T e s3:=⟨_,rfl⟩;obtain ⟨s4,e4⟩:∃ q,q=if b.kind=5/\b.n=a.n then xG T e s3 7 else s3:=⟨_,rfl⟩
 obtain ⟨s5,e5⟩:∃ q,q=(xt T e s4 5).2:=⟨_,rfl⟩;obtain ⟨s6,e6⟩:∃ q,q=xf T e s5 (⟨#[41]⟩:ByteArray):=⟨_,rfl⟩;obtain ⟨s7,e7⟩:∃ q:PS,q=⟨s6.i,s6.code,s6.at_,[a.n,b.n],s6.seen⟩:=⟨_,rfl⟩;have hH:yj T e s0=(⟨(xt T e s7 3).1,2,[]⟩,(xt T e s7 3).2):=by
  subst e7 e6 e5 e4 eb e3 e2 ea e1;unfold yj;show (if isS T e (noV s0) _=true then _ else if (tokS T e (noV s0)).kind=5 then _ else _)=_
  rw [if_pos h1];rfl
 rw [hH];have ht1:=xp T e s1;have hw1:=yO T e s1 (by omega) 5 (by decide)
 have htk:=xI T e s2 (by omega) (⟨#[44]⟩:ByteArray) (xa (l:=[44]) (by simp))
 have ht3:=xp T e s3;have hf:=y3 T e s3 7;have hw4:=yO T e s4 (by omega) 5 (by decide)
 have htk5:=xI T e s5 (by omega) (⟨#[41]⟩:ByteArray) (xa (l:=[41]) (by simp))
 have hw7:=yO T e s7 (by omega) 3 (by decide)
 have b0:(noV s0).i<T.length:=hlt;have v2:s2.vars=[]:=by rw [e2,zc,e1];rfl
 have v3:s3.vars=[]:=by rw [e3,zO];exact v2
 have v4:s4.vars=[]:=by rw [e4];split;rw [vJ];exact v3;exact v3
 have v5:s5.vars=[]:=by rw [e5,zc];exact v4
 have v6:s6.vars=[]:=by rw [e6,zO];exact v5
 have v1:s1.vars=[]:=by rw [e1];rfl
 have v7:=zc (T:=T) (e:=e) s7 3;rw [<- ea] at ht1
 rw [<- e2] at hw1
 rw [<- e3] at htk
 rw [<- eb] at ht3
 rw [<- e5] at hw4
 rw [<- e6] at htk5
 have v7:(xt T e s7 3).2.vars=[a.n,b.n]:=by rw [v7,e7]
 rcases hq:xt T e s7 3 with ⟨nm,s8⟩
 rw [hq] at hw7 v7
 simp only at hw7 v7 ⊢
 generalize (xt T e s1 5).1=x1 at *
 generalize (xt T e s4 5).1=x4 at *
 clear hH e2 e3 e5 e6 hq ea eb;rw [MTok.enc_eq] at ht1 ht3
 unfold noV at *
 rw [xh] at his ht1 ht3
 have i1:s1.i=s0.i+1:=by rw [e1];rfl
 have c1:s1.code=s0.code:=by rw [e1];rfl
 have a1:s1.at_=s0.at_:=by rw [e1];rfl
 have n1:s1.seen=s0.seen:=by rw [e1];rfl
 clear e1;have i7:s7.i=s6.i:=by rw [e7]
 have c7:s7.code=s6.code:=by rw [e7]
 have a7:s7.at_=s6.at_:=by rw [e7]
 have n7:s7.seen=s6.seen:=by rw [e7]
 have w7:s7.vars=[a.n,b.n]:=by rw [e7]
 clear e7
 by_cases hc:b.kind=5/\b.n=a.n
 .rw [if_pos hc] at e4
  rw [<- e4] at hf
  clear e4;have k5:=kT hc.1;have kn:=kT hc.2;simp only [xb,v1,v2,v3,v4,v5,v6,v7,i1,c1,a1,n1,i7,c7,a7,n7,w7] at *
  refine FI PM Tryz.func199 Tryz.ntmps199 [(16,7,[6],[(6,0),(6,1),(6,2),(6,3),(6,4)],(lin [6] [0,1,2,3,4,5,6]))] rfl rfl ?_
  (refine xE ?_;simp only [go_sem,simprocAttr];(have hWf:=f0;repeat' (first|refine zY ?_|refine zI ?_ ?_|exact zF1|refine zD fun hb=>?_|exact zC|refine zT ?_|fail)))
  (refine xE ?_;simp only [go_sem,simprocAttr];(have hWf:=f0;repeat' (first|refine zY ?_|refine zI ?_ ?_|exact zF1|refine zD fun hb=>?_|exact zC|refine zT ?_|fail)))
  refine zJ 900000 5 777 (row:=[.sl 4 (T.map MTok.enc),.s (.int .i64 s0.i),.s (.int .i64 e),.s (.int .i64 s0.code),.s (.int .i64 s0.at_),.nil,.bs 7900000 1 s0.seen.length]) 3 1 (by simp only [go_sem,simprocAttr]) rfl (by decide) rfl (z8 777 (.arr 3 1 []) (by simp only [go_sem,simprocAttr]) rfl ?_)
  iterate 13 (refine xE ?_;simp only [go_sem,simprocAttr,xe,xd,k5,kn];(have hWf:=w4 @xe @xd @k5 @kn;repeat' (first|refine zY ?_|refine zI ?_ ?_|refine zK his ?_|refine zK ht1 ?_|refine zH hw1 ?_|refine zH htk ?_|refine zK ht3 ?_|refine zH hf ?_|refine zH hw4 ?_|refine zH htk5 ?_|exact zF1|refine zD fun hb=>?_|exact zC|refine zT ?_|fail)))
  refine z8 46 (.arr 3 1 [[.s (.int .i64 a.n)],[.s (.int .i64 b.n)]]) (by simp only [go_sem,simprocAttr]) rfl ?_
  (have hWf:=w2 @xe @xd;repeat' (first|refine zS ?_|refine zI ?_ ?_|refine zX hw7 ?_|((with_reducible apply xc);refine xu (hw7) ?_;rintro _ _ ⟨rfl,rfl⟩)|exact zF0|refine zD fun hb=>?_|exact zC|refine zT ?_|fail))
  all_goals rfl
 .rw [if_neg hc] at e4
  subst e4;clear hf
  by_cases z5:b.kind=5
  .have k5:=kT z5
   have kn:=kF (fun q=>hc ⟨z5,q⟩)
   simp only [xb,v1,v2,v3,v5,v6,v7,i1,c1,a1,n1,i7,c7,a7,n7,w7] at *
   refine FI PM Tryz.func199 Tryz.ntmps199 [(16,7,[6],[(6,0),(6,1),(6,2),(6,3),(6,4)],(lin [6] [0,1,2,3,4,5,6]))] rfl rfl ?_
   (refine xE ?_;simp only [go_sem,simprocAttr];(have hWf:=f0;repeat' (first|refine zY ?_|refine zI ?_ ?_|exact zF1|refine zD fun hb=>?_|exact zC|refine zT ?_|fail)))
   (refine xE ?_;simp only [go_sem,simprocAttr];(have hWf:=f0;repeat' (first|refine zY ?_|refine zI ?_ ?_|exact zF1|refine zD fun hb=>?_|exact zC|refine zT ?_|fail)))
   refine zJ 900000 5 777 (row:=[.sl 4 (T.map MTok.enc),.s (.int .i64 s0.i),.s (.int .i64 e),.s (.int .i64 s0.code),.s (.int .i64 s0.at_),.nil,.bs 7900000 1 s0.seen.length]) 3 1 (by simp only [go_sem,simprocAttr]) rfl (by decide) rfl (z8 777 (.arr 3 1 []) (by simp only [go_sem,simprocAttr]) rfl ?_)
   iterate 13 (refine xE ?_;simp only [go_sem,simprocAttr,xe,xd,k5,kn];(have hWf:=w4 @xe @xd @k5 @kn;repeat' (first|refine zY ?_|refine zI ?_ ?_|refine zK his ?_|refine zK ht1 ?_|refine zH hw1 ?_|refine zH htk ?_|refine zK ht3 ?_|refine zH hw4 ?_|refine zH htk5 ?_|exact zF1|refine zD fun hb=>?_|exact zC|refine zT ?_|fail)))
   refine z8 46 (.arr 3 1 [[.s (.int .i64 a.n)],[.s (.int .i64 b.n)]]) (by simp only [go_sem,simprocAttr]) rfl ?_
   (have hWf:=w2 @xe @xd;repeat' (first|refine zS ?_|refine zI ?_ ?_|refine zX hw7 ?_|((with_reducible apply xc);refine xu (hw7) ?_;rintro _ _ ⟨rfl,rfl⟩)|exact zF0|refine zD fun hb=>?_|exact zC|refine zT ?_|fail))
   all_goals rfl
  .have k5:=kF z5
   simp only [xb,v1,v2,v3,v5,v6,v7,i1,c1,a1,n1,i7,c7,a7,n7,w7] at *
   refine FI PM Tryz.func199 Tryz.ntmps199 [(16,7,[6],[(6,0),(6,1),(6,2),(6,3),(6,4)],(lin [6] [0,1,2,3,4,5,6]))] rfl rfl ?_
   (refine xE ?_;simp only [go_sem,simprocAttr];(have hWf:=f0;repeat' (first|refine zY ?_|refine zI ?_ ?_|exact zF1|refine zD fun hb=>?_|exact zC|refine zT ?_|fail)))
   (refine xE ?_;simp only [go_sem,simprocAttr];(have hWf:=f0;repeat' (first|refine zY ?_|refine zI ?_ ?_|exact zF1|refine zD fun hb=>?_|exact zC|refine zT ?_|fail)))
   refine zJ 900000 5 777 (row:=[.sl 4 (T.map MTok.enc),.s (.int .i64 s0.i),.s (.int .i64 e),.s (.int .i64 s0.code),.s (.int .i64 s0.at_),.nil,.bs 7900000 1 s0.seen.length]) 3 1 (by simp only [go_sem,simprocAttr]) rfl (by decide) rfl (z8 777 (.arr 3 1 []) (by simp only [go_sem,simprocAttr]) rfl ?_)
   iterate 13 (refine xE ?_;simp only [go_sem,simprocAttr,xe,xd,k5];(have hWf:=w3 @xe @xd @k5;repeat' (first|refine zY ?_|refine zI ?_ ?_|refine zK his ?_|refine zK ht1 ?_|refine zH hw1 ?_|refine zH htk ?_|refine zK ht3 ?_|refine zH hw4 ?_|refine zH htk5 ?_|exact zF1|refine zD fun hb=>?_|exact zC|refine zT ?_|fail)))
   refine z8 46 (.arr 3 1 [[.s (.int .i64 a.n)],[.s (.int .i64 b.n)]]) (by simp only [go_sem,simprocAttr]) rfl ?_
   (have hWf:=w2 @xe @xd;repeat' (first|refine zS ?_|refine zI ?_ ?_|refine zX hw7 ?_|((with_reducible apply xc);refine xu (hw7) ?_;rintro _ _ ⟨rfl,rfl⟩)|exact zF0|refine zD fun hb=>?_|exact zC|refine zT ?_|fail))
   all_goals rfl
theorem c_l03Head(T:List MTok)(e:Int)(hT:T.length<=10000)(s:PS):FT 199 [.opt (rdD T e s)] (fun r o=>r=.ag [.s (.string (yj T e s).1.name),.s (.int .i64 (yj T e s).1.params),.nil]/\o=[.opt (rdD T e (yj T e s).2)]):=by
 cases h:isS T e (noV s) (⟨#[40]⟩:ByteArray) with
 | true=>exact head_two T e hT s h
 | false=>
  by_cases h5:(tokS T e (noV s)).kind=5
  .exact head_one T e hT s h h5
  .exact head_none T e hT s h h5
theorem xbz{T:List MTok}{e:Int}{n:Nat}{l:List MCon}{s:PS}(h:¬ s.code=0):yD T e (n+1) l s=(l,s):=by unfold yD;rw [if_neg h]
theorem cons1_go{T:List MTok}{e:Int}{n:Nat}{l:List MCon}{s s1:PS}{c:MCon}(h:s.code=0)(hc:conS T e s=(c,s1)):yD T e (n+1) l s=if isS T e s1 (⟨#[124]⟩:ByteArray)=true then yD T e n (l++[c]) (advS s1) else (l++[c],s1):=by
 conv=>lhs;unfold yD
 rw [if_pos h,hc]
theorem c_l03Type(T:List MTok)(e:Int)(hT:T.length<=10000)(s:PS)(hs:s.i<=T.length):FT 129 [.opt (rdD T e s)] (fun r o=>r=.ag (wc T e s).1.own/\o=[.opt (rdD T e (wc T e s).2)]):=by
 have hh:=c_l03Head T e hT s;have bh:=Vp (T:=T) (e:=e) s;unfold wc;rcases hq:yj T e s with ⟨t,s1⟩
 rw [hq] at hh bh
 simp only at hh bh ⊢
 have ht:=xI T e s1 (by omega) (⟨#[61]⟩:ByteArray) (xa (l:=[61]) (by simp))
 have bt:=ui (T:=T) (e:=e) s1 (xa (l:=[61]) (by simp))
 have vt:=zO (T:=T) (e:=e) s1 (⟨#[61]⟩:ByteArray);have hi1:=bh.1.2 hs;have hi2:=bt.2 hi1;generalize xf T e s1 (⟨#[61]⟩:ByteArray)=s2 at *
 obtain ⟨tn,tp,tc⟩:=t;simp only at hh ⊢
 obtain ⟨F,hF⟩:∃ F,F=yD T e (T.length+1) [] s2:=⟨_,rfl⟩;rw [<- hF];obtain ⟨L,s9⟩:=F;simp only;have hv2:s2.vars.length<=1000:=by rw [vt];have:=bh.2;omega
 have hend:=xI T e s9 (by omega) (⟨#[59]⟩:ByteArray) (xa (l:=[59]) (by simp))
 rw [xb,xb] at hh ht hend
 rw [xb,xb];generalize xf T e s9 (⟨#[59]⟩:ByteArray)=s10 at *
 show FCon _ _ _ (fun r o=>r=.ag [.s (.string tn),.s (.int .i64 tp),.osl 68 3 (L.map MCon.own)]/\o=_)
 refine FI PM Tryz.func129 Tryz.ntmps129 [] rfl rfl ?_
 (have hWf:=w2 @xe @xd;repeat' (first|refine zS ?_|refine zI ?_ ?_|refine zH hh ?_|refine zH ht ?_|exact zF0|refine zD fun hb=>?_|exact zC|refine zT ?_|fail))
 refine Zx (zJ 3 2 888 (row:=[.s (.string tn),.s (.int .i64 tp),.nil]) 68 3 (by simp only [go_sem,simprocAttr]) rfl (by decide) rfl (xE ?_))
 simp only [go_sem,simprocAttr];refine xn (fun n σ=>∃ (j:Nat) (l':List MCon) (s':PS),n=T.length - s'.i/\T.length - s'.i<j/\s'.i<=T.length/\l'.length<=s'.i/\s'.vars.length<=1000/\yD T e j l' s'=(L,s9)/\σ.t 0=.bx 900000 0/\σ.b 900000=some (.box [.sl 4 (T.map MTok.enc),.s (.int .i64 s'.i),.s (.int .i64 e),.s (.int .i64 s'.code),.s (.int .i64 s'.at_),.sl 1 (s'.vars.map iE),.bs 7900000 1 s'.seen.length])/\σ.b 7900000=some (.arr 9 1 (s'.seen.map stE))/\σ.t 2=.bx 2 0/\σ.b 2=some (.box [.s (.string ⟨#[]⟩),.s (.int .i64 0),.nil])/\σ.t 3=.bx 3 0/\σ.b 3=some (.box [.s (.string tn),.s (.int .i64 tp),.bs 888 3 l'.length])/\σ.b 888=some (.arr 68 3 (l'.map MCon.own))) (T.length - s2.i) ⟨T.length+1,[],s2,rfl,by omega,hi2,Nat.zero_le _,hv2,hF.symm,?_⟩ ?_
 .simp only [go_sem,simprocAttr]
  all_goals rfl
 .rintro m σ ⟨j,l',s',rfl,hj,hsi,hll,hvv,hap,h0,b9,b7,h2,b2,h3,b3,b8⟩ K' hK
  obtain ⟨j,rfl⟩:∃ q,j=q+1:=⟨j - 1,by omega⟩
  by_cases z0:s'.code=0
  .have f0:=kT z0
   rcases hqc:conS T e s' with ⟨c,s3⟩
   rw [cons1_go z0 hqc] at hap
   have bc:=UX (T:=T) (e:=e) s';have vc:=Q5 (T:=T) (e:=e) s';have ac:=con_arg (T:=T) (e:=e) s';rw [hqc] at bc vc ac
   simp only at bc vc ac
   have hi3:=bc.2 hsi;have hge:=bc.1;have hw:=yO T e s' (by omega) 4 (by decide)
   have bw:=vD (T:=T) (e:=e) s' (k:=4) (by decide)
   have vw:=zc (T:=T) (e:=e) s' 4;unfold conS at hqc
   rcases hqw:xt T e s' 4 with ⟨nm,s4⟩
   rw [hqw] at hw bw vw hqc
   simp only at hw bw vw hqc
   have hio:=xD T e s4 (⟨#[111,102]⟩:ByteArray);have hib:=xD T e s3 (⟨#[124]⟩:ByteArray);have hown:=MCon.own_eq c;rw [xb,xb] at hw
   rw [xh] at hio hib
   cases hof:isS T e s4 (⟨#[111,102]⟩:ByteArray) with
   | true=>
    have hlt:=xA hof (xa (l:=[111,102]) (by simp))
    rw [hof,if_pos rfl] at hqc
    rw [hof] at hio
    have hty:=c_l03Ty (T:=T) (e:=e) hT 101 (by omega) (advS s4) hlt.2 (by rw [vU,vw];exact hvv)
    rw [show (101:Int) - ((101:Nat):Int)=0 by rfl] at hty
    rcases hqt:tyF T e 101 (advS s4) with ⟨a,s5⟩
    rw [hqt] at hty hqc
    injection hqc with e1 e2
    subst e1 e2;simp only at hty hown hge hi3 vc ac
    unfold advS at hty
    rw [xb,xb] at hty
    cases hbar:isS T e s5 (⟨#[124]⟩:ByteArray) with
    | true=>
     have hlb:=xA hbar (xa (l:=[124]) (by simp))
     rw [hbar,if_pos rfl] at hap
     rw [hbar] at hib
     (have hWf:=w10 @h0 @b9 @b7 @h2 @b2 @h3 @b3 @b8 @xe (ai @xd<|@f0);repeat' (first|refine zS ?_|refine zI ?_ ?_|refine zH hw ?_|refine zK hio ?_|refine zH hty ?_|refine zK hib ?_|exact zF0|refine zD fun hb=>?_|exact zC|refine zT ?_|fail))
     refine hK (T.length - (s5.i+1)) _ (by omega) ⟨j,_,advS s5,rfl,by show T.length - (s5.i+1)<j;omega,hlb.2,by rw [List.length_append];show l'.length+1<=s5.i+1;omega,by rw [vU,vc];exact hvv,hap,?_⟩
     simp only [go_sem,simprocAttr,h0,b9,b7,h2,b2,h3,b3,b8,List.map_append,List.length_append,hown]
     all_goals exact ⟨rfl,rfl⟩
    | false=>
     rw [hbar,if_neg (by decide)] at hap
     rw [hbar] at hib
     injection hap with e1 e2
     subst e1 e2
     (have hWf:=w10 @h0 @b9 @b7 @h2 @b2 @h3 @b3 @b8 @xe (ai @xd<|ai @f0<|@hown);repeat' (first|refine zS ?_|refine zI ?_ ?_|refine zH hw ?_|refine zK hio ?_|refine zH hty ?_|refine zK hib ?_|refine zH hend ?_|exact zF0|refine zD fun hb=>?_|exact zC|refine zT ?_|fail))
     all_goals rfl
   | false=>
    rw [hof,if_neg (by decide)] at hqc
    rw [hof] at hio
    injection hqc with e1 e2
    subst e1 e2;simp only at hown hge hi3 vc ac
    cases hbar:isS T e s4 (⟨#[124]⟩:ByteArray) with
    | true=>
     have hlb:=xA hbar (xa (l:=[124]) (by simp))
     rw [hbar,if_pos rfl] at hap
     rw [hbar] at hib
     iterate 4 (refine xE ?_;simp only [go_sem,simprocAttr,h0,b9,b7,h2,b2,h3,b3,b8,xe,xd,f0];(have hWf:=w10 @h0 @b9 @b7 @h2 @b2 @h3 @b3 @b8 @xe (ai @xd<|@f0);repeat' (first|refine zY ?_|refine zI ?_ ?_|refine zH hw ?_|exact zF1|refine zD fun hb=>?_|exact zC|refine zT ?_|fail)))
     refine zJ 4 2 889 (row:=[.s (.string nm),.s (.bool false),.nil]) 159 3 (by simp only [go_sem,simprocAttr]) rfl (by decide) rfl ?_
     (have hWf:=w10 @h0 @b9 @b7 @h2 @b2 @h3 @b3 @b8 @xe (ai @xd<|@f0);repeat' (first|refine zS ?_|refine zI ?_ ?_|refine zK hio ?_|refine zK hib ?_|exact zF0|refine zD fun hb=>?_|exact zC|refine zT ?_|fail))
     refine hK (T.length - (s4.i+1)) _ (by omega) ⟨j,_,advS s4,rfl,by show T.length - (s4.i+1)<j;omega,hlb.2,by rw [List.length_append];show l'.length+1<=s4.i+1;omega,by rw [vU,vc];exact hvv,hap,?_⟩
     simp only [go_sem,simprocAttr,h0,b9,b7,h2,b2,h3,b3,b8,List.map_append,List.length_append,hown]
     all_goals exact ⟨rfl,rfl⟩
    | false=>
     rw [hbar,if_neg (by decide)] at hap
     rw [hbar] at hib
     injection hap with e1 e2
     subst e1 e2
     iterate 4 (refine xE ?_;simp only [go_sem,simprocAttr,h0,b9,b7,h2,b2,h3,b3,b8,xe,xd,f0];(have hWf:=w10 @h0 @b9 @b7 @h2 @b2 @h3 @b3 @b8 @xe (ai @xd<|@f0);repeat' (first|refine zY ?_|refine zI ?_ ?_|refine zH hw ?_|exact zF1|refine zD fun hb=>?_|exact zC|refine zT ?_|fail)))
     refine zJ 4 2 889 (row:=[.s (.string nm),.s (.bool false),.nil]) 159 3 (by simp only [go_sem,simprocAttr]) rfl (by decide) rfl ?_
     (have hWf:=w10 @h0 @b9 @b7 @h2 @b2 @h3 @b3 @b8 @xe (ai @xd<|ai @f0<|@hown);repeat' (first|refine zS ?_|refine zI ?_ ?_|refine zK hio ?_|refine zK hib ?_|refine zH hend ?_|exact zF0|refine zD fun hb=>?_|exact zC|refine zT ?_|fail))
     all_goals rfl
  .have f0:=kF z0
   rw [xbz z0] at hap
   injection hap with e1 e2
   subst e1 e2
   (have hWf:=w10 @h0 @b9 @b7 @h2 @b2 @h3 @b3 @b8 @xe (ai @xd<|@f0);repeat' (first|refine zS ?_|refine zI ?_ ?_|refine zH hend ?_|exact zF0|refine zD fun hb=>?_|exact zC|refine zT ?_|fail))
   all_goals rfl
end
section
open Go.RowKit
theorem at_some'{s:ByteArray}{k:Nat}(h:k<s.size):s.data.toList[k]?=some s[k]:=List.getElem?_eq_getElem h
theorem at_get{s:ByteArray}{k:Nat}(h:k<s.size):s.data.toList[k]'h=s[k]:=rfl
theorem xbY{s:ByteArray}(h:1<=s.size):s.data.toList≠[]:=by
 intro e;have:=congrArg List.length e;rw [blen] at this
 simp only [List.length_nil] at this;omega
noncomputable def txtV(s:ByteArray):Value:=.tuple #[.int .i64 ((txtO s.data.toList).getD 0),.bool (txtO s.data.toList).isSome]
theorem Qs{s:ByteArray}{n:Int}(h:txtO s.data.toList=some n):txtV s=.tuple #[.int .i64 n,.bool true]:=by unfold txtV;rw [h];rfl
theorem Xy{s:ByteArray}(h:txtO s.data.toList=none):txtV s=.tuple #[.int .i64 0,.bool false]:=by unfold txtV;rw [h];rfl
theorem Wz{s:ByteArray}{n:Int}:bs (numT n)=s ↔ numT n=s.data.toList:=by
 constructor
 .intro h;rw [<- h];rfl
 .intro h;rw [h];exact bs_of s
theorem eq45{b:UInt8}:((b.toNat:Int)==45)=decide (b=45):=by
 rw [Bool.eq_iff_iff];simp only [beq_iff_eq,decide_eq_true_eq];exact ⟨fun h=>UInt8.toNat.inj (by have this:b.toNat=45:=(by omega);rw [this];rfl),fun h=>by rw [h];rfl⟩
theorem offL_s{s:ByteArray}(h:0<s.size):offL s.data.toList=if s[0]=45 then 1 else 0:=by
 by_cases e:s[0]=45
 .rw [if_pos e];exact offL_of (by rw [at_some' h,e])
 .rw [if_neg e];exact xas (by rw [at_some' h];exact fun q=>e (Option.some.inj q))
def small(n:Int):Prop:=0<=n/\n<=5000000000000000009
theorem xcp{s:ByteArray}{k:Nat}(ho:offL s.data.toList<=k)(hk:k<s.size):yW s.data.toList (k+1)=10*yW s.data.toList k+((s[k].toNat:Int) - 48):=xcq _ _ ho hk
theorem xaG(w:World)(s:ByteArray)(hs:s.size<=maxLen):Calls Tryz.prog 192 #[.string s] w fun e w'=>e=.returned (txtV s)/\Below w.heap.size w w':=by
 unfold maxLen at hs
 by_cases hl:1<=s.size/\s.size<=20
 .obtain ⟨hl1,hl2⟩:=hl
  have h0:0<s.size:=hl1;have HO:=Lib.hid (offL_s h0);have HF:Hid (offL s.data.toList=if ((s[0].toNat:Int)==45) then 1 else 0):=by
   unfold Hid;rw [HO.out,eq45];simp
  have ho1:offL s.data.toList<=1:=by rw [HF.out];split<;>omega
  go_enter Tryz.func192,Tryz.ntmps192
  go_wp2
  go_loop [4,5] (fun nv i=>∃ (k:Nat) (n:Int),i=.int .i64 k/\nv=.int .i64 n/\k<=s.size/\0<=n/\n<=5000000000000000009/\n=yW s.data.toList k) (fun _ i=>s.size - (intOf i).toNat)
  case atStart=>exact ⟨0,0,rfl,rfl,by omega,by omega,by omega,by rw [YK _ _ (by omega)]⟩
  case round=>
   obtain ⟨k,n,rfl,rfl,hk,hn0,hn1,hnv⟩:=hrel;have HN:=Lib.hid hnv;clear hnv
   by_cases hlt:k<s.size
   .have u:=s[k].toNat_lt
    by_cases hskip:k=0/\s[0]=45
    .obtain ⟨rfl,h45⟩:=hskip
     have hm:((s[0].toNat:Int)==45)=true:=by rw [eq45];simp [h45]
     have HV:Hid (n=yW s.data.toList 1):=by
      unfold Hid;rw [HN.out,YK _ _ (by omega),YK _ _ (by rw [HF.out,hm];decide)]
     clear h45
     go_wp2
     go_round
     case rel=>exact ⟨1,n,by go_num,rfl,by omega,by omega,by omega,HV.out⟩
     case measure=>simp [intOf];omega
    .have ho:offL s.data.toList<=k:=by
      rcases Nat.eq_zero_or_pos k with h|h
      .subst h
       rw [HO.out,if_neg (fun e=>hskip ⟨rfl,e⟩)];omega
      .omega
     have ht:((k:Int)==0)=false\/(((k:Int)==0)=true/\((s[0].toNat:Int)==45)=false):=by
      by_cases h:k=0
      .right;refine ⟨by simp [h],?_⟩;rw [eq45];simpa using fun e=>hskip ⟨h,e⟩
      .left;simpa using h
     have Ho:=Lib.hid ho;clear hskip ho;rcases ht with ht|⟨ht,ht2⟩
     all_goals
      by_cases hd:48<=s[k].toNat/\s[k].toNat<=57
      .obtain ⟨d1,d2⟩:=hd
       have hd1:48<=(s[k].toNat:Int):=by omega
       have hd2:(s[k].toNat:Int)<=57:=by omega
       by_cases hbig:500000000000000000<n
       .have HR:=Lib.hid (Xy (s:=s) (xaM (l:=s.data.toList) (k:=k) hlt Ho.out (.inr (by rw [<- HN.out];exact hbig))))
        go_wp2
        go_ret2
        exact ⟨congrArg Ending.returned HR.out.symm,Below.refl _ _⟩
       .have HS:=Lib.hid (xcp Ho.out hlt)
        go_wp2
        go_round
        case rel=>exact ⟨k+1,n*10+((s[k].toNat:Int) - 48),by go_num,by go_num,by omega,by omega,by omega,by rw [HS.out,<- HN.out];omega⟩
        case measure=>simp [intOf];omega
      .have HR:=Lib.hid (Xy (s:=s) (xaM (l:=s.data.toList) (k:=k) hlt Ho.out (.inl (by rw [at_get hlt];exact hd))))
       by_cases d1:48<=(s[k].toNat:Int)
       .have d2:57<(s[k].toNat:Int):=by omega
        clear hd
        go_wp2
        go_ret2
        exact ⟨congrArg Ending.returned HR.out.symm,Below.refl _ _⟩
       .clear hd
        go_wp2
        go_ret2
        exact ⟨congrArg Ending.returned HR.out.symm,Below.refl _ _⟩
   .obtain rfl:k=s.size:=by omega
    have HNe:=Lib.hid (xbY hl1);cases hm:((s[0].toNat:Int)==45)
    .rw [hm] at HF
     have HZ:Hid (n=if offL s.data.toList=1 then - yW s.data.toList s.data.toList.length else yW s.data.toList s.data.toList.length):=by
      unfold Hid;rw [HF.out,blen,<- HN.out];rfl
     have z1 : -9223372036854775808<=n:=by omega
     have z2:n<=9223372036854775807:=by omega
     by_cases hq:numT (n)=s.data.toList
     .have HR:=Lib.hid (Qs (xaN HNe.out _ HZ.out hq))
      have hne:=zN (Wz.2 hq);clear hq
      go_wp2_with (first|(go_at_call 237;refine (vO _ _ z1 z2).mono ?_;rintro e w1 ⟨rfl,hb1⟩))
      go_ret2
      exact ⟨congrArg Ending.returned HR.out.symm,hb1⟩
     .have HR:=Lib.hid (Xy (txtO_no HNe.out _ HZ.out hq))
      have hne:=zb (fun e=>hq (Wz.1 e))
      clear hq
      go_wp2_with (first|(go_at_call 237;refine (vO _ _ z1 z2).mono ?_;rintro e w1 ⟨rfl,hb1⟩))
      go_ret2
      exact ⟨congrArg Ending.returned HR.out.symm,hb1⟩
    .rw [hm] at HF
     have HZ:Hid (-n=if offL s.data.toList=1 then - yW s.data.toList s.data.toList.length else yW s.data.toList s.data.toList.length):=by
      unfold Hid;rw [HF.out,blen,<- HN.out];rfl
     have z1 : -9223372036854775808 <= -n:=by omega
     have z2 : -n<=9223372036854775807:=by omega
     by_cases hq:numT (-n)=s.data.toList
     .have HR:=Lib.hid (Qs (xaN HNe.out _ HZ.out hq))
      have hne:=zN (Wz.2 hq);clear hq
      go_wp2_with (first|(go_at_call 237;refine (vO _ _ z1 z2).mono ?_;rintro e w1 ⟨rfl,hb1⟩))
      go_ret2
      exact ⟨congrArg Ending.returned HR.out.symm,hb1⟩
     .have HR:=Lib.hid (Xy (txtO_no HNe.out _ HZ.out hq))
      have hne:=zb (fun e=>hq (Wz.1 e))
      clear hq
      go_wp2_with (first|(go_at_call 237;refine (vO _ _ z1 z2).mono ?_;rintro e w1 ⟨rfl,hb1⟩))
      go_ret2
      exact ⟨congrArg Ending.returned HR.out.symm,hb1⟩
 .have HR:=Lib.hid (Xy (s:=s) (txtO_len (by rw [blen];omega)))
  by_cases hl1:s.size<1
  .go_enter Tryz.func192,Tryz.ntmps192
   go_wp2
   go_ret2
   exact ⟨congrArg Ending.returned HR.out.symm,Below.refl _ _⟩
  .have h20:20<s.size:=by omega
   go_enter Tryz.func192,Tryz.ntmps192
   go_wp2
   go_ret2
   exact ⟨congrArg Ending.returned HR.out.symm,Below.refl _ _⟩
theorem QE(w:World)(n:Int)(h0:0<=n)(h1:n<16):Calls Tryz.prog 146 #[.int .u8 n] w fun e w'=>e=.returned (.int .u8 (hexI n))/\w=w':=by
 by_cases h:n<10
 .have H:=Lib.hid (show 48+n=hexI n by rw [hexI,if_pos h])
  go_enter Tryz.func146,Tryz.ntmps146
  go_wp2
  go_ret
  exact ⟨ret_n H.out,rfl⟩
 .have H:=Lib.hid (show 97+n - 10=hexI n by rw [hexI,if_neg h];omega)
  go_enter Tryz.func146,Tryz.ntmps146
  go_wp2
  go_ret
  exact ⟨ret_n H.out,rfl⟩
theorem YJ(w:World)(n:Int)(h0:0<=n)(h1:n<16):Calls Tryz.prog 258 #[.int .i64 n] w fun e w'=>e=.returned (.int .u8 (hexI n))/\w=w':=by
 have h:n=0\/n=1\/n=2\/n=3\/n=4\/n=5\/n=6\/n=7\/n=8\/n=9\/n=10\/n=11\/n=12\/n=13\/n=14\/n=15:=by omega
 clear h0 h1;rcases h with rfl|rfl|rfl|rfl|rfl|rfl|rfl|rfl|rfl|rfl|rfl|rfl|rfl|rfl|rfl|rfl
 all_goals
  go_enter Tryz.func258,Tryz.ntmps258
  go_wp2
  go_ret
  exact ⟨rfl,rfl⟩
theorem xbR(w:World)(s:ByteArray)(hs:s.size<=10000000000):Calls Tryz.prog 64 #[.string s] w fun e w'=>e=.returned (.string (bs (quoL s.data.toList)))/\Below w.heap.size w w':=by
 go_enter Tryz.func64,Tryz.ntmps64
 go_wp2
 go_loopw [3,9] (fun v i wr=>∃ k:Nat,k<=s.size/\i=.int .i64 k/\OwnB wr w.heap.size v (quoP s.data.toList k)/\Below w.heap.size w wr) (fun _ i _=>s.size - (intOf i).toNat)
 case atStart=>exact ⟨0,Nat.zero_le _,rfl,by rw [Qq];exact OwnB.made w _ (Nat.le_refl _) [34] (by decide),(Below.refl _ _).alloc (Nat.le_refl _) _⟩
 case round=>
  obtain ⟨k,hk,rfl,hown,hbel⟩:=hrel;have hlen:=Yg s.data.toList k;obtain ⟨a,c,rfl⟩:=hown.len;have HO:=Lib.hid hown;clear hown
  by_cases hlt:k<s.size
  .have HS:=Lib.hid (Xw s.data.toList k hlt)
   have hq:s[k].toNat<256:=s[k].toNat_lt
   by_cases q1:s[k].toNat=10
   .have HQ:=Lib.hid (HS.out.trans (congrArg _ (quoB_n q1)))
    have t1:((s[k].toNat:Int)==10)=true:=by simp [q1]
    clear q1
    go_wp2_with (first|(at_builtin;refine yf wr rfl _ _ rfl w.heap.size (.slice a (quoP s.data.toList k).length c) _ rfl HO.out _ rfl [92,110] ?_ ?_ ?_ ?_))
    .rfl
    .simp;omega
    .exact hbel.size
    .intro v' w' hown' hb'
     rw [<- HQ.out] at hown'
     go_wp2
     go_roundw
     case rel=>exact ⟨k+1,by omega,by go_num,hown',hbel.trans hb'⟩
     case measure=>simp [intOf];omega
   .have t1:((s[k].toNat:Int)==10)=false:=by simp;omega
    by_cases q2:s[k].toNat=34\/s[k].toNat=92
    .have HQ:=Lib.hid (HS.out.trans (congrArg _ (quoB_e q1 q2)))
     have T:(((s[k].toNat:Int)==34)=true/\True)\/(((s[k].toNat:Int)==34)=false/\((s[k].toNat:Int)==92)=true):=by
      rcases q2 with q2|q2
      .left;simp [q2]
      .right;simp [q2]
     clear q1 q2;rcases T with ⟨t2,t3⟩|⟨t2,t3⟩
     all_goals
      go_wp2_with (first|(at_builtin;refine yf wr rfl _ _ rfl w.heap.size (.slice a (quoP s.data.toList k).length c) _ rfl HO.out _ rfl [92,s[k]] ?_ ?_ ?_ ?_))
      .rfl
      .simp;omega
      .exact hbel.size
      .intro v' w' hown' hb'
       replace hown':OwnB w' w.heap.size v' (quoP s.data.toList (k+1)):=by rw [HQ.out];exact hown'
       go_wp2
       go_roundw
       case rel=>exact ⟨k+1,by omega,by go_num,hown',hbel.trans hb'⟩
       case measure=>simp [intOf];omega
    .have t2:((s[k].toNat:Int)==34)=false:=by simp;omega
     have t3:((s[k].toNat:Int)==92)=false:=by simp;omega
     by_cases q3:32<=s[k].toNat/\s[k].toNat<=126
     .have HQ:=Lib.hid (HS.out.trans (congrArg _ (quoB_p q1 q2 q3)))
      obtain ⟨t4,t5⟩:=q3;clear q1 q2
      go_wp2_with (first|(at_builtin;refine yf wr rfl _ _ rfl w.heap.size (.slice a (quoP s.data.toList k).length c) _ rfl HO.out _ rfl [s[k]] ?_ ?_ ?_ ?_))
      .rfl
      .simp;omega
      .exact hbel.size
      .intro v' w' hown' hb'
       replace hown':OwnB w' w.heap.size v' (quoP s.data.toList (k+1)):=by rw [HQ.out];exact hown'
       go_wp2
       go_roundw
       case rel=>exact ⟨k+1,by omega,by go_num,hown',hbel.trans hb'⟩
       case measure=>simp [intOf];omega
     .have HQ:=Lib.hid (HS.out.trans (congrArg _ (quoB_x q1 q2 q3)))
      have HX:Hid ([Value.int .u8 92,.int .u8 120,.int .u8 (hexI ((s[k].toNat:Int) / 16)),.int .u8 (hexI ((s[k].toNat:Int) % 16))]=([92,120,hexB (s[k].toNat / 16),hexB (s[k].toNat % 16)]:List UInt8).map yB):=by
       have e1:=hexV (n:=(s[k].toNat:Int) / 16) (by omega) (by omega)
       have e2:=hexV (n:=(s[k].toNat:Int) % 16) (by omega) (by omega)
       rw [show ((s[k].toNat:Int) / 16).toNat=s[k].toNat / 16 from by omega] at e1
       rw [show ((s[k].toNat:Int) % 16).toNat=s[k].toNat % 16 from by omega] at e2
       unfold Hid;rw [e1,e2];rfl
      by_cases q4:32<=s[k].toNat
      all_goals
       have q5:=q3;clear q1 q2 q3
       go_wp2_with (first|(go_at_call 146;refine (QE _ _ (by omega) (by omega)).mono ?_;rintro e w' ⟨rfl,rfl⟩)|(at_builtin;refine yf wr rfl _ _ rfl w.heap.size (.slice a (quoP s.data.toList k).length c) _ rfl HO.out _ rfl [92,120,hexB (s[k].toNat / 16),hexB (s[k].toNat % 16)] ?_ ?_ ?_ ?_))
       .exact HX.out
       .simp;omega
       .exact hbel.size
       .intro v' w' hown' hb'
        replace hown':OwnB w' w.heap.size v' (quoP s.data.toList (k+1)):=by rw [HQ.out];exact hown'
        go_wp2
        go_roundw
        case rel=>exact ⟨k+1,by omega,by go_num,hown',hbel.trans hb'⟩
        case measure=>simp [intOf];omega
  .have HE:=Lib.hid (Yf s.data.toList k (by rw [blen];omega))
   go_wp2_with (first|(at_builtin;refine yf wr rfl _ _ rfl w.heap.size (.slice a (quoP s.data.toList k).length c) _ rfl HO.out _ rfl [34] ?_ ?_ ?_ ?_))
   .rfl
   .simp;omega
   .exact hbel.size
   .intro v' w' hown' hb'
    rw [HE.out] at hown'
    have hcv:=ub hown'
    go_wp2
    go_ret
    exact ⟨rfl,hbel.trans hb'⟩
theorem Va(w:World)(s:ByteArray)(hs:s.size<=10000000000):Calls Tryz.prog 239 #[.string s] w fun e w'=>e=.returned (.string (bs (quoL s.data.toList)))/\Below w.heap.size w w':=by
 go_enter Tryz.func239,Tryz.ntmps239
 go_wp2
 go_loopw [3,4] (fun v i wr=>∃ k:Nat,k<=s.size/\i=.int .i64 k/\OwnB wr w.heap.size v (quoP s.data.toList k)/\Below w.heap.size w wr) (fun _ i _=>s.size - (intOf i).toNat)
 case atStart=>exact ⟨0,Nat.zero_le _,rfl,by rw [Qq];exact OwnB.made w _ (Nat.le_refl _) [34] (by decide),(Below.refl _ _).alloc (Nat.le_refl _) _⟩
 case round=>
  obtain ⟨k,hk,rfl,hown,hbel⟩:=hrel;have hlen:=Yg s.data.toList k;obtain ⟨a,c,rfl⟩:=hown.len;have HO:=Lib.hid hown;clear hown
  by_cases hlt:k<s.size
  .have HS:=Lib.hid (Xw s.data.toList k hlt)
   have hq:s[k].toNat<256:=s[k].toNat_lt
   by_cases q1:s[k].toNat=10
   .have HQ:=Lib.hid (HS.out.trans (congrArg _ (quoB_n q1)))
    have t1:((s[k].toNat:Int)==10)=true:=by simp [q1]
    clear q1
    go_wp2_with (first|(at_builtin;refine yf wr rfl _ _ rfl w.heap.size (.slice a (quoP s.data.toList k).length c) _ rfl HO.out _ rfl [92,110] ?_ ?_ ?_ ?_))
    .rfl
    .simp;omega
    .exact hbel.size
    .intro v' w' hown' hb'
     rw [<- HQ.out] at hown'
     go_wp2
     go_roundw
     case rel=>exact ⟨k+1,by omega,by go_num,hown',hbel.trans hb'⟩
     case measure=>simp [intOf];omega
   .have t1:((s[k].toNat:Int)==10)=false:=by simp;omega
    by_cases q2:s[k].toNat=34\/s[k].toNat=92
    .have HQ:=Lib.hid (HS.out.trans (congrArg _ (quoB_e q1 q2)))
     have T:(((s[k].toNat:Int)==34)=true/\True)\/(((s[k].toNat:Int)==34)=false/\((s[k].toNat:Int)==92)=true):=by
      rcases q2 with q2|q2
      .left;simp [q2]
      .right;simp [q2]
     clear q1 q2;rcases T with ⟨t2,t3⟩|⟨t2,t3⟩
     all_goals
      go_wp2_with (first|(at_builtin;refine yf wr rfl _ _ rfl w.heap.size (.slice a (quoP s.data.toList k).length c) _ rfl HO.out _ rfl [92,s[k]] ?_ ?_ ?_ ?_))
      .rfl
      .simp;omega
      .exact hbel.size
      .intro v' w' hown' hb'
       replace hown':OwnB w' w.heap.size v' (quoP s.data.toList (k+1)):=by rw [HQ.out];exact hown'
       go_wp2
       go_roundw
       case rel=>exact ⟨k+1,by omega,by go_num,hown',hbel.trans hb'⟩
       case measure=>simp [intOf];omega
    .have t2:((s[k].toNat:Int)==34)=false:=by simp;omega
     have t3:((s[k].toNat:Int)==92)=false:=by simp;omega
     by_cases q3:32<=s[k].toNat/\s[k].toNat<=126
     .have HQ:=Lib.hid (HS.out.trans (congrArg _ (quoB_p q1 q2 q3)))
      obtain ⟨t4,t5⟩:=q3;clear q1 q2
      go_wp2_with (first|(at_builtin;refine yf wr rfl _ _ rfl w.heap.size (.slice a (quoP s.data.toList k).length c) _ rfl HO.out _ rfl [s[k]] ?_ ?_ ?_ ?_))
      .rfl
      .simp;omega
      .exact hbel.size
      .intro v' w' hown' hb'
       replace hown':OwnB w' w.heap.size v' (quoP s.data.toList (k+1)):=by rw [HQ.out];exact hown'
       go_wp2
       go_roundw
       case rel=>exact ⟨k+1,by omega,by go_num,hown',hbel.trans hb'⟩
       case measure=>simp [intOf];omega
     .have HQ:=Lib.hid (HS.out.trans (congrArg _ (quoB_x q1 q2 q3)))
      have HX:Hid ([Value.int .u8 92,.int .u8 120,.int .u8 (hexI ((s[k].toNat:Int) / 16)),.int .u8 (hexI ((s[k].toNat:Int) % 16))]=([92,120,hexB (s[k].toNat / 16),hexB (s[k].toNat % 16)]:List UInt8).map yB):=by
       have e1:=hexV (n:=(s[k].toNat:Int) / 16) (by omega) (by omega)
       have e2:=hexV (n:=(s[k].toNat:Int) % 16) (by omega) (by omega)
       rw [show ((s[k].toNat:Int) / 16).toNat=s[k].toNat / 16 from by omega] at e1
       rw [show ((s[k].toNat:Int) % 16).toNat=s[k].toNat % 16 from by omega] at e2
       unfold Hid;rw [e1,e2];rfl
      by_cases q4:32<=s[k].toNat
      all_goals
       have q5:=q3;clear q1 q2 q3
       go_wp2_with (first|(go_at_call 258;refine (YJ _ _ (by omega) (by omega)).mono ?_;rintro e w' ⟨rfl,rfl⟩)|(at_builtin;refine yf wr rfl _ _ rfl w.heap.size (.slice a (quoP s.data.toList k).length c) _ rfl HO.out _ rfl [92,120,hexB (s[k].toNat / 16),hexB (s[k].toNat % 16)] ?_ ?_ ?_ ?_))
       .exact HX.out
       .simp;omega
       .exact hbel.size
       .intro v' w' hown' hb'
        replace hown':OwnB w' w.heap.size v' (quoP s.data.toList (k+1)):=by rw [HQ.out];exact hown'
        go_wp2
        go_roundw
        case rel=>exact ⟨k+1,by omega,by go_num,hown',hbel.trans hb'⟩
        case measure=>simp [intOf];omega
  .have HE:=Lib.hid (Yf s.data.toList k (by rw [blen];omega))
   go_wp2_with (first|(at_builtin;refine yf wr rfl _ _ rfl w.heap.size (.slice a (quoP s.data.toList k).length c) _ rfl HO.out _ rfl [34] ?_ ?_ ?_ ?_))
   .rfl
   .simp;omega
   .exact hbel.size
   .intro v' w' hown' hb'
    rw [HE.out] at hown'
    have hcv:=ub hown'
    go_wp2
    go_ret
    exact ⟨rfl,hbel.trans hb'⟩
def yF(n:Int):Int:=if 48<=n/\n<=57 then n - 48 else if 97<=n/\n<=102 then n - 87 else 0
theorem Q9(n:Int):0<=yF n/\yF n<=15:=by unfold yF;split;omega;split<;>omega
theorem ZT{n:Int}(h0:0<=n)(h1:n<16):yF (hexI n)=n:=by unfold yF hexI;split<;>split<;>(try split)<;>omega
theorem hexI_eq{d n:Int}(h0:0<=d)(h1:d<16)(h:hexI d=n):d=yF n:=by rw [<- h,ZT h0 h1]
theorem xbN{n:Int}(h:∀ d:Int,0<=d->d<16->hexI d≠n):yF n=0:=by
 unfold yF;split
 .rename_i q;exact absurd (show hexI (n - 48)=n by unfold hexI;rw [if_pos (by omega)];omega) (h _ (by omega) (by omega))
 .split
  .rename_i q;exact absurd (show hexI (n - 87)=n by unfold hexI;rw [if_neg (by omega)];omega) (h _ (by omega) (by omega))
  .rfl
theorem xab{n:Nat}(h:n<16):((hexB n).toNat:Int)=hexI n:=by
 have:=hexI_bd (n:=(n:Int)) (by omega) (by omega)
 unfold hexB;rw [UInt8.toNat_ofNat'];omega
theorem xaI(w:World)(n:Int):Calls Tryz.prog 238 #[.int .u8 n] w fun e w'=>e=.returned (.int .i64 (yF n))/\w=w':=by
 go_enter Tryz.func238,Tryz.ntmps238
 go_wp2
 go_loop [3] (fun i=>∃ k:Nat,k<=16/\i=.int .i64 k/\(∀ d:Int,0<=d->d<k->hexI d≠n)) (fun i=>16 - (intOf i).toNat)
 case atStart=>exact ⟨0,Nat.zero_le _,rfl,by omega⟩
 case round=>
  obtain ⟨k,hk,rfl,hall⟩:=hrel;have HA:=Lib.hid hall;clear hall
  by_cases hlt:k<16
  .cases he:(hexI (k:Int)==n)
   .have HF:=Lib.hid (show hexI (k:Int)≠n by simpa using he)
    go_wp2_with (first|(go_at_call 258;refine (YJ _ _ (by omega) (by omega)).mono ?_;rintro e w' ⟨rfl,rfl⟩))
    go_round
    case rel=>
     refine ⟨k+1,by omega,by go_num,fun d h0 h1=>?_⟩
     by_cases e:d=k
     .subst e;exact HF.out
     .exact HA.out d h0 (by omega)
    case measure=>simp [intOf];omega
   .have HF:=Lib.hid (hexI_eq (d:=(k:Int)) (n:=n) (by omega) (by omega) (by simpa using he))
    go_wp2_with (first|(go_at_call 258;refine (YJ _ _ (by omega) (by omega)).mono ?_;rintro e w' ⟨rfl,rfl⟩))
    go_ret
    exact ⟨ret_i HF.out,rfl⟩
  .have HF:=Lib.hid (xbN (n:=n) (fun d h0 h1=>HA.out d h0 (by omega)))
   go_wp2
   go_ret
   exact ⟨ret_i HF.out.symm,rfl⟩
theorem wJ{s:ByteArray}{k:Nat}(h:k<s.size):s.data.toList[k]?=some s[k]:=List.getElem?_eq_getElem h
noncomputable def unqV(s:ByteArray):Value:=.tuple #[.string (bs ((unqO s.data.toList).getD [])),.bool (unqO s.data.toList).isSome]
theorem unqV_some{s:ByteArray}{out:List UInt8}(h:unqO s.data.toList=some out):unqV s=.tuple #[.string (bs out),.bool true]:=by unfold unqV;rw [h];rfl
theorem unqV_none{s:ByteArray}(h:unqO s.data.toList=none):unqV s=.tuple #[.string (bs []),.bool false]:=by unfold unqV;rw [h];rfl
theorem quo_eq{s:ByteArray}{out:List UInt8}:bs (quoL out)=s ↔ quoL out=s.data.toList:=by
 constructor
 .intro h;rw [<- h];rfl
 .intro h;rw [h];exact bs_of s
theorem hexS{x c d:UInt8}(h1:c=hexB (x.toNat / 16))(h2:d=hexB (x.toNat % 16)):(x.toNat:Int)=16*yF c.toNat+yF d.toNat:=by
 have hx:=x.toNat_lt;rw [h1,h2,xab (by omega),xab (by omega),ZT (by omega) (by omega),ZT (by omega) (by omega)]
 omega
theorem byte_eq{x:UInt8}{z:Int}(h:(x.toNat:Int)=z):x=UInt8.ofNat z.toNat:=by
 apply UInt8.toNat.inj;have:=x.toNat_lt;rw [UInt8.toNat_ofNat'];omega
theorem UInv.hexS{s:ByteArray}{k:Nat}{out:List UInt8}(h:UInv s.data.toList k out)(hk:k+3<s.size)(h0:s[k]=92)(h1:s[k+1]=120) :
  UInv s.data.toList (k+4) (out++[UInt8.ofNat (16*yF s[k+2].toNat+yF s[k+3].toNat).toNat]):=
 h.hex (by rw [blen];omega) (by rw [wJ (by omega),h0]) (by rw [wJ (by omega),h1]) (wJ (by omega)) (wJ (by omega)) (fun x e1 e2=>byte_eq (Go.Proofs.YtgcdbmcoendcdaaGreat.hexS e1 e2))
theorem xcn{P:Program}{ops:Array Oper}{o:Oper}{a:Act}{w:World}{K:Act->World->Prop}{Q:Exit->Act->World->Prop}{E:Prop}(hg:o.guard=none)(h:Oper.wp P o a w K Q) :
  if Region.wanted o (yielded ops a.tmps)=true then Oper.wp P o a w K Q else E:=by
 rw [if_pos (by simp [Region.wanted,hg])];exact h
theorem by_ne{x y:UInt8}(h:x≠y):((x.toNat:Int)==(y.toNat:Int))=false:=by
 rw [beq_eq_false_iff_ne];intro e;exact h (UInt8.toNat.inj (by omega))
theorem by_ne'{x y:UInt8}(h:x≠y):((x.toNat:Int) != (y.toNat:Int))=true:=by
 rw [bne_iff_ne];intro e;exact h (UInt8.toNat.inj (by omega))
theorem xaH(w:World)(s:ByteArray)(hs:s.size<=9000000000):Calls Tryz.prog 195 #[.string s] w fun e w'=>e=.returned (unqV s)/\Below w.heap.size w w':=by
 go_enter Tryz.func195,Tryz.ntmps195
 go_wp2
 go_loopw [4,5] (fun v i wr=>∃ (k:Nat) (out:List UInt8),i=.int .i64 k/\out.length<=k/\k<=s.size+1/\UInv s.data.toList k out/\OwnB wr w.heap.size v out/\Below w.heap.size w wr) (fun _ i _=>s.size+2 - (intOf i).toNat)
 case atStart=>exact ⟨1,[],rfl,by simp,by omega,UInv.start _,OwnB.made w _ (Nat.le_refl _) [] (by decide),(Below.refl _ _).alloc (Nat.le_refl _) _⟩
 case round=>
  obtain ⟨k,out,rfl,hl,hks,hinv,hown,hbel⟩:=hrel;obtain ⟨a,c,rfl⟩:=hown.len;have HO:=Lib.hid hown;have HI:=Lib.hid hinv;clear hown hinv
  by_cases hlt:k+1<s.size
  .have hlt0:k<s.size:=by omega
   have hwb:(k:Int)<(s.size:Int) - 1:=by omega
   by_cases c0:s[k]=92
   .have t0:((s[k].toNat:Int) != 92)=false:=by rw [c0];rfl
    by_cases c1:s[k+1]=110
    .have HS:=Lib.hid (HI.out.newline (by rw [blen];omega) ((wJ hlt0).trans (congrArg some c0)) ((wJ hlt).trans (congrArg some c1)))
     have t1:((s[k+1].toNat:Int)==110)=true:=by rw [c1];rfl
     clear c0 c1
     go_wp2_with (first|(at_builtin;refine yf wr rfl _ _ rfl w.heap.size (.slice a out.length c) _ rfl HO.out _ rfl [10] ?_ ?_ ?_ ?_))
     .rfl
     .simp;omega
     .exact hbel.size
     .intro v' w' hown' hb'
      go_wp2
      go_roundw
      case rel=>exact ⟨k+2,_,by go_num,by simp;omega,by omega,HS.out,hown',hbel.trans hb'⟩
      case measure=>simp [intOf];omega
    .have t1:((s[k+1].toNat:Int)==110)=false:=by_ne c1
     by_cases c2:s[k+1]=120
     .have t2:((s[k+1].toNat:Int)==120)=true:=by rw [c2];rfl
      by_cases c3:k+3<s.size
      .have HS:=Lib.hid (HI.out.hexS c3 c0 c2)
       have hh1:=Q9 s[k+2].toNat;have hh2:=Q9 s[k+3].toNat;have HV:=Lib.hid (QV (z:=16*yF s[k+2].toNat+yF s[k+3].toNat) (by omega) (by omega))
       clear c0 c1 c2
       go_wp2_with fail
       have i1:(0:Int)<=(k:Int)+1+1:=by omega
       have i2:(k:Int)+1+1<(s.size:Int):=by omega
       have i3:(0:Int)<=(k:Int)+1+2:=by omega
       have i4:(k:Int)+1+2<(s.size:Int):=by omega
       have n1:((k:Int)+1+1).toNat=k+2:=by omega
       have n2:((k:Int)+1+2).toNat=k+3:=by omega
       have HL:=Lib.hid (show out.length+1<=140737488355328 by omega)
       have e1:IntKind.i64.wrap ((k:Int)+1+1)=(k:Int)+1+1:=IntWalk.i64_in _ (by omega)
       have e2:IntKind.i64.wrap ((k:Int)+1+2)=(k:Int)+1+2:=IntWalk.i64_in _ (by omega)
       have e3:IntKind.i64.wrap (16*yF s[k+2].toNat)=16*yF s[k+2].toNat:=IntWalk.i64_in _ (by omega)
       have e4:IntKind.i64.wrap (16*yF s[k+2].toNat+yF s[k+3].toNat)=16*yF s[k+2].toNat+yF s[k+3].toNat:=IntWalk.i64_in _ (by omega)
       have e5:IntKind.u8.wrap (16*yF s[k+2].toNat+yF s[k+3].toNat)=16*yF s[k+2].toNat+yF s[k+3].toNat:=IntWalk.u8_in _ (by omega)
       go_region_law (first|(refine xcn rfl ?_;go_simp;(go_at_call 238;refine (xaI _ _).mono ?_;rintro e w' ⟨rfl,rfl⟩);dsimp only)|(refine Vb wr.drew rfl _ _ rfl w.heap.size (.slice a out.length c) _ rfl HO.out.drew _ rfl [UInt8.ofNat (16*yF s[k+2].toNat+yF s[k+3].toNat).toNat] (congrArg (fun x=>[x]) HV.out) HL.out hbel.size ?_;intro v' w' hown' hb'))
       all_goals
        go_wp2
        go_roundw
        case rel=>exact ⟨k+4,_,by go_num,by simp;omega,by omega,HS.out,hown',hbel.trans (((Below.refl _ _).drew).trans hb')⟩
        case measure=>simp [intOf];omega
      .have HS:=Lib.hid (HI.out.escaped (by rw [blen];omega) ((wJ hlt0).trans (congrArg some c0)) (wJ hlt) c1 (.inr (by rw [blen];omega)))
       clear c0 c1 c2
       go_wp2_with (first|(at_builtin;refine yf wr rfl _ _ rfl w.heap.size (.slice a out.length c) _ rfl HO.out _ rfl [s[k+1]] ?_ ?_ ?_ ?_))
       .rfl
       .simp;omega
       .exact hbel.size
       .intro v' w' hown' hb'
        go_wp2
        go_roundw
        case rel=>exact ⟨k+2,_,by go_num,by simp;omega,by omega,HS.out,hown',hbel.trans hb'⟩
        case measure=>simp [intOf];omega
     .have t2:((s[k+1].toNat:Int)==120)=false:=by_ne c2
      have HS:=Lib.hid (HI.out.escaped (by rw [blen];omega) ((wJ hlt0).trans (congrArg some c0)) (wJ hlt) c1 (.inl c2))
      clear c0 c1 c2
      go_wp2_with (first|(at_builtin;refine yf wr rfl _ _ rfl w.heap.size (.slice a out.length c) _ rfl HO.out _ rfl [s[k+1]] ?_ ?_ ?_ ?_))
      .rfl
      .simp;omega
      .exact hbel.size
      .intro v' w' hown' hb'
       go_wp2
       go_roundw
       case rel=>exact ⟨k+2,_,by go_num,by simp;omega,by omega,HS.out,hown',hbel.trans hb'⟩
       case measure=>simp [intOf];omega
   .have HS:=Lib.hid (HI.out.plain (by rw [blen];omega) (wJ hlt0) c0)
    have t0:((s[k].toNat:Int) != 92)=true:=by_ne' c0;clear c0
    go_wp2_with (first|(at_builtin;refine yf wr rfl _ _ rfl w.heap.size (.slice a out.length c) _ rfl HO.out _ rfl [s[k]] ?_ ?_ ?_ ?_))
    .rfl
    .simp;omega
    .exact hbel.size
    .intro v' w' hown' hb'
     go_wp2
     go_roundw
     case rel=>exact ⟨k+1,_,by go_num,by simp;omega,by omega,HS.out,hown',hbel.trans hb'⟩
     case measure=>simp [intOf];omega
  .have HD:=Lib.hid (HI.out.done (by rw [blen];omega))
   have hwb:¬ (k:Int)<(s.size:Int) - 1:=by omega
   have hz:(bs out).size<=10000000000:=by rw [ze];omega
   have hcv:=ub HO.out;have hcv2:=fun (w2:World) (hb2:Below wr.heap.size wr w2)=>ub (HO.out.kept hb2 (Nat.le_refl _))
   by_cases hq:quoL out=s.data.toList
   .have HR:=Lib.hid (unqV_some (unqO_some HD.out hq))
    have hne:((bs (quoL (bs out).data.toList)).toList==s.toList)=true:=zN (quo_eq.2 hq);clear hq
    go_wp2_with (first|(go_at_call 239;refine (Va _ _ hz).mono ?_;rintro e w1 ⟨rfl,hb1⟩))
    go_ret2
    exact ⟨congrArg Ending.returned HR.out.symm,hbel.trans (hb1.mono hbel.size)⟩
   .have HR:=Lib.hid (unqV_none (unqO_none HD.out hq))
    have hne:((bs (quoL (bs out).data.toList)).toList==s.toList)=false:=zb (fun e=>hq (quo_eq.1 e))
    clear hq
    go_wp2_with (first|(go_at_call 239;refine (Va _ _ hz).mono ?_;rintro e w1 ⟨rfl,hb1⟩))
    go_ret2
    exact ⟨congrArg Ending.returned HR.out.symm,hbel.trans (hb1.mono hbel.size)⟩
theorem FCon.ofFix {f:FuncId} {fn:Func} {c:Code} (hf:Tryz.prog.funcs[f]?=some fn) (hname:(fn.name == "runtime.NumGoroutine")=false) (hb:fn.body=some c) {ars:List D} {v:Value} {r:D} (hl:ars.all lentB=true) (hr:∀ (g:Gh) (w:World),RNs g w r v)
  (h:∀ (w:World) (S:Nat->Prop) (up:Nat->Option Pos) (vs:List Value),vs.length=ars.length->(∀ (j:Nat) (b:D) (u:Value),ars[j]?=some b->vs[j]?=some u->RB S up w b u)->Calls Tryz.prog f vs.toArray w fun e w'=>e=.returned v/\Below w.heap.size w w'):FT f ars (fun x _=>x=r):=by
 refine ⟨fun vs w=>?_,fun w g vs hS hu hl' hv=>(h w g.S g.up vs hl' (fun j b u q1 q2=>(hv j b u q1 q2).lent (List.all_eq_true.1 hl b (List.mem_of_getElem? q1)))).mono ?_⟩
 .have hname':¬ fn.name = "runtime.NumGoroutine" := by simpa using hname
  have hbn:¬ fn.body=none:=by rw [hb];simp
  simp [callFunc,hf,hname',hbn]
 .rintro e w' ⟨rfl,hbel⟩
  exact ⟨v,⟨fun _=>none,fun _=>0,fun _=>none,g.S⟩,r,[],rfl,⟨hbel.os,hbel.tape,hbel.output,hbel.size,fun k hk=>by omega⟩,fun b hb' _=>hbel.block b hb',fun _ q=>q,fun _ _ q=>.inl q,fun b q=>Nat.lt_of_lt_of_le (hS b q) hbel.size,fun b p q=>(by cases q),rfl,hr _ _,fun j d u q=>(by simp at q)⟩
theorem RNs.pair{g:Gh}{w:World}{v1 v2:Value}(o1:v1.oneCell'=true)(o2:v2.oneCell'=true):RNs g w (.tup [.s v1,.s v2]) (.tuple #[v1,v2]):=⟨[v1,v2],rfl,rfl,fun j x u hx hu=>by
  match j,hx,hu with
  | 0,hx,hu=>simp at hx hu;subst hx hu;exact Rep.s o1
  | 1,hx,hu=>simp at hx hu;subst hx hu;exact Rep.s o2⟩
theorem FCon.ofPair {f:FuncId} {fn:Func} {c:Code} (hf:Tryz.prog.funcs[f]?=some fn) (hname:(fn.name == "runtime.NumGoroutine")=false) (hb:fn.body=some c) (s:ByteArray) {v1 v2:Value} (o1:v1.oneCell'=true) (o2:v2.oneCell'=true)
  (h:∀ w,Calls Tryz.prog f #[.string s] w fun e w'=>e=.returned (.tuple #[v1,v2])/\Below w.heap.size w w'):FT f [.s (.string s)] (fun r _=>r=.tup [.s v1,.s v2]):=by
 refine FCon.ofFix hf hname hb rfl (fun _ _=>RNs.pair o1 o2) fun w S up vs hl hv=>?_
 obtain ⟨v,rfl,h'⟩:=Xf (P:=fun _ d u=>RB S up w d u) hl hv
 have:=Rep.s_inv (show Rep S up w none (.s (.string s)) v from h');subst this;exact h w
theorem uR(s:ByteArray)(hs:s.size<=maxLen):FT 192 [.s (.string s)] (fun r _=>r=.tup [.s (.int .i64 ((txtO s.data.toList).getD 0)),.s (.bool (txtO s.data.toList).isSome)]):=FCon.ofPair Tryz.func192 rfl rfl s rfl rfl fun w=>xaG w s hs
theorem uS(s:ByteArray)(hs:s.size<=9000000000):FT 195 [.s (.string s)] (fun r _=>r=.tup [.s (.string (bs ((unqO s.data.toList).getD []))),.s (.bool (unqO s.data.toList).isSome)]):=FCon.ofPair Tryz.func195 rfl rfl s rfl rfl fun w=>xaH w s hs
theorem Yo(s:ByteArray):FT 109 [.s (.string s)] (fun r _=>r=.s (.bool (inL s z6))):=FCon.ofStr Tryz.func109 rfl rfl s _ fun w=>We w s
theorem Q8{s:ByteArray}{i j:Nat}(h:j<=s.size):(s.extract i j).size=j - i:=by
 rw [ByteArray.size_extract];omega
theorem FCon.nilH{P:Program}{f:FuncId}{args:List D}{e k:Nat}{rows:List (List D)}{rest:List D}(h:FCon P f args (fun r _=>r=.tup (.osl e k rows::rest)\/(rows=[]/\r=.tup (.nil::rest)))):FCon P f args (fun r _=>r=.tup (.osl e k rows::rest)):=h.wk fun r o e'=>by
 rcases e' with rfl|⟨rfl,rfl⟩
 .exact ⟨_,rfl,fun _ _ _ q=>q⟩
 .refine ⟨_,rfl,fun g w v q=>?_⟩
  obtain ⟨us,rfl,n1,n2⟩:=q;refine ⟨us,rfl,by simpa using n1,fun m x u hx hu=>?_⟩
  match m,hx with
  | 0,hx=>
   simp at hx;subst hx
   exact Rep.nil_osl _ _ (n2 0 _ u rfl hu)
  | m+1,hx=>exact n2 (m+1) x u hx hu
noncomputable def lexD(R:List MTok×Int×Int):D:=.tup [.osl 234 4 (R.1.map MTok.own),.s (.int .i64 R.2.1),.s (.int .i64 R.2.2)]
def bareL(R:List MTok×Int×Int)(r:D):Prop:=r=lexD R\/(R.1=[]/\r=.tup [.nil,.s (.int .i64 R.2.1),.s (.int .i64 R.2.2)])
theorem wn{R:List MTok×Int×Int}{c p:Int}(h:R=([],c,p)):bareL R (.tup [.nil,.s (.int .i64 c),.s (.int .i64 p)]):=by subst h;exact .inr ⟨rfl,rfl⟩
theorem FCon.bareL{f:FuncId}{args:List D}{R:List MTok×Int×Int}(h:FT f args (fun r _=>bareL R r)):FT f args (fun r _=>r=lexD R):=by
 refine FCon.nilH (h.mono fun r o q=>?_)
 rcases q with q|⟨q1,q2⟩
 .exact .inl q
 .exact .inr ⟨by rw [q1];rfl,q2⟩
theorem wN(ts:List MTok):xU (ts.map MTok.own)=ts.map MTok.enc:=MTok.frzS ts
end
end Go.Proofs.YtgcdbmcoendcdaaGreat
