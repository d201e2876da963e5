/- Parts of the proof. -/
import Derived.Test.YtmnokalddmlogaaGreatP6
set_option linter.unusedSimpArgs false
set_option linter.unusedVariables false
set_option maxRecDepth 100000
set_option maxHeartbeats 8000000
namespace Go.Proofs.YtmnokalddmlogaaGreat
section
attribute [local go_sem] List.length_set List.set_set
open Go.RowKit Go.ChangeShapes Go.WideShapes
structure MNode where
 kind:Int
 at_:Int
 n:Int
 s:ByteArray
 kids:List Int
 pats:List MPat
def MNode.enc(x:MNode):List D:=[.s (.int .i64 x.kind),.s (.int .i64 x.at_),.s (.int .i64 x.n),.s (.string x.s),.sl 1 (x.kids.map iE),.sl 1 (x.pats.map MPat.enc)]
theorem MNode.enc_eq(x:MNode):x.enc=[.s (.int .i64 x.kind),.s (.int .i64 x.at_),.s (.int .i64 x.n),.s (.string x.s),.sl 1 (x.kids.map iE),.sl 1 (x.pats.map MPat.enc)]:=rfl
def MNode.own(x:MNode):List D:=[.s (.int .i64 x.kind),.s (.int .i64 x.at_),.s (.int .i64 x.n),.s (.string x.s),.osl 3 1 (x.kids.map iE),.osl 62 1 (x.pats.map MPat.own)]
theorem MNode.own_eq(x:MNode):x.own=[.s (.int .i64 x.kind),.s (.int .i64 x.at_),.s (.int .i64 x.n),.s (.string x.s),.osl 3 1 (x.kids.map iE),.osl 62 1 (x.pats.map MPat.own)]:=rfl
theorem MNode.frz_eq(x:MNode):frzL x.own=x.enc:=by
 simp only [MNode.own_eq,MNode.enc_eq,frzL,frz,x9 iE_frz,x9 MPat.frz_eq]
def MNode.ok(x:MNode):Prop:=I64 x.kind/\I64 x.at_/\I64 x.n/\x.s.size<=maxLen/\(∀ y∈x.kids,I64 y)/\(∀ y∈x.pats,y.ok)
def MNode.sm(x:MNode):Prop:=x.s.size<=1048576/\smS (fun _:Int=>True) x.kids/\smS MPat.sm x.pats
def MNode.cnt(x:MNode):Nat:=1+1+1+1+cnts (fun _:Int=>1) x.kids+cnts MPat.cnt x.pats
def MNode.mark(k:Int)(x:MNode):MNode:=⟨k,(k+1),((k+1)+1),mkB (((k+1)+1)+1),marks (fun _:Int=>1) (fun k _=>k) ((((k+1)+1)+1)+1) x.kids,marks MPat.cnt MPat.mark (((((k+1)+1)+1)+1)+(cnts (fun _:Int=>1) x.kids:Nat)) x.pats⟩
theorem MNode.cnt_eq(x:MNode):x.cnt=1+1+1+1+cnts (fun _:Int=>1) x.kids+cnts MPat.cnt x.pats:=rfl
theorem MNode.pure(x:MNode):∀ d∈x.own,Pure d:=by
 simp only [MNode.own_eq,List.forall_mem_cons,List.not_mem_nil,false_imp_iff,implies_true,and_true];exact ⟨.s _,.s _,.s _,.s _,xP VV _ _ _,xP MPat.pure _ _ _⟩
theorem MNode.pureS(e k:Nat)(xs:List MNode):Pure (.osl e k (xs.map MNode.own))=True:=eq_true (xP MNode.pure e k xs)
attribute [go_sem] MNode.pureS
theorem MNode.frzS(xs:List MNode):xu (xs.map MNode.own)=xs.map MNode.enc:=x9 MNode.frz_eq xs
attribute [go_sem] MNode.frzS
theorem xa4(x:MNode)(hs:x.sm):FT 84 [.ag x.enc] (fun r _=>r=.ag x.own):=by
 refine FI PM Tryz.func84 Tryz.ntmps84 [] rfl rfl ?_
 (have hWf:=w2 @MNode.enc_eq @MNode.own_eq;repeat' (first|refine zS ?_|refine zI ?_ ?_|refine zK (xa3 x.kids (hs.2.1)) ?_|refine zK (Up x.pats (hs.2.2)) ?_|exact zF0|refine zD fun hb=>?_|exact zC|refine zT ?_|fail))
theorem c_toNodeS(xs:List MNode)(hs:smS MNode.sm xs):FT 41 [.sl 6 (xs.map MNode.enc)] (fun r _=>r=.osl 163 6 (xs.map MNode.own)):=by
 have hl:=hs.1;refine FI PM Tryz.func41 Tryz.ntmps41 [] rfl rfl ?_
 (have hWf:=f0;repeat' (first|refine zS ?_|refine zI ?_ ?_|exact zF0|refine zD fun hb=>?_|exact zC|refine zT ?_|fail))
 refine xd (fun n σ=>∃ k:Nat,k<=xs.length/\n=xs.length - k/\σ.t 0=.sl 6 (xs.map MNode.enc)/\σ.t 3=.bs 7 6 xs.length/\σ.t 4=.s (.int .i64 k)/\σ.b 7=some (.arr 163 6 (zn MNode.own [.s (.int .i64 0),.s (.int .i64 0),.s (.int .i64 0),.s (.string ⟨#[]⟩),.nil,.nil] xs k))) xs.length ⟨0,by omega,by omega,?_⟩ ?_
 ·simp only [go_sem,simprocAttr,z8,Int.natCast_zero]
 ·rintro n σ ⟨k,hk,rfl,h0,h3,h4,h7⟩ K' hK
  by_cases hlt:k<xs.length
  ·have hx:=xb MNode.enc xs k hlt
   have he:=MNode.enc_eq xs[k];have hpl:=wO (f:=MNode.own) (z:=[.s (.int .i64 0),.s (.int .i64 0),.s (.int .i64 0),.s (.string ⟨#[]⟩),.nil,.nil]) (Nat.le_of_lt hlt);have hg:=wM (f:=MNode.own) (z:=[.s (.int .i64 0),.s (.int .i64 0),.s (.int .i64 0),.s (.string ⟨#[]⟩),.nil,.nil]) hlt;have hst:=wP (f:=MNode.own) (z:=[.s (.int .i64 0),.s (.int .i64 0),.s (.int .i64 0),.s (.string ⟨#[]⟩),.nil,.nil]) hlt
   rw [MNode.own_eq] at hst
   (have hWf:=w10 @h0 @h3 @h4 @h7 @hx @he @MNode.own_eq @hpl @hg @hst;repeat' (first|refine zS ?_|refine zI ?_ ?_|((with_reducible apply xc);refine zG (xa4 xs[k] (hs.2 _ (List.getElem_mem hlt))) ?_)|((with_reducible apply xf);refine xe (xa4 xs[k] (hs.2 _ (List.getElem_mem hlt))) ?_)|exact zF0|refine zD fun hb=>?_|exact zC|refine zT ?_|fail))
   refine hK (xs.length - (k+1)) _ (by omega) ⟨k+1,by omega,rfl,?_⟩
   simp only [go_sem,simprocAttr,h0,h3,h4,h7,Int.natCast_succ]
  ·obtain rfl:k=xs.length:=by omega
   rw [wL] at h7
   (have hWf:=w4 @h0 @h3 @h4 @h7;repeat' (first|refine zS ?_|refine zI ?_ ?_|exact zF0|refine zD fun hb=>?_|exact zC|refine zT ?_|fail))
theorem c_eqNode(x:MNode):FT 108 [.ag x.enc,.ag x.enc] (fun r _=>r=.s (.bool true)):=by
 refine FI PM Tryz.func108 Tryz.ntmps108 [] rfl rfl ?_
 (have hWf:=w1 @MNode.enc_eq;repeat' (first|refine zS ?_|refine zI ?_ ?_|refine zK (Ug x.kids) ?_|refine zK (Uh x.pats) ?_|exact zF0|refine zD fun hb=>?_|exact zC|refine zT ?_|fail))
theorem c_eqNodeS(xs:List MNode):FT 53 [.sl 6 (xs.map MNode.enc),.sl 6 (xs.map MNode.enc)] (fun r _=>r=.s (.bool true)):=by
 refine FI PM Tryz.func53 Tryz.ntmps53 [(6,8,[],[],(lin [] [0,1,2,3,4,5,6,7]))] rfl rfl ?_;refine yr 0 rfl trivial fun hlen=>?_
 simp only [List.length_map] at hlen
 (have hWf:=f0;repeat' (first|refine zS ?_|refine zI ?_ ?_|exact zF0|refine zD fun hb=>?_|exact zC|refine zT ?_|fail))
 refine xd (fun n σ=>∃ k:Nat,k<=xs.length/\n=xs.length - k/\σ.t 0=.sl 6 (xs.map MNode.enc)/\σ.t 1=.sl 6 (xs.map MNode.enc)/\σ.t 5=.s (.int .i64 k)) xs.length ⟨0,by omega,by omega,?_⟩ ?_
 ·simp only [go_sem,simprocAttr,Int.natCast_zero]
 ·rintro n σ ⟨k,hk,rfl,h0,h1,h5⟩ K' hK
  by_cases hlt:k<xs.length
  ·have hx:=xb MNode.enc xs k hlt
   have he:=MNode.enc_eq xs[k]
   (have hWf:=w5 @h0 @h1 @h5 @hx @he;repeat' (first|refine zS ?_|refine zI ?_ ?_|refine zK (c_eqNode xs[k]) ?_|exact zF0|refine zD fun hb=>?_|exact zC|refine zT ?_|fail))
   all_goals
    refine hK (xs.length - (k+1)) _ (by omega) ⟨k+1,by omega,rfl,?_⟩
    simp only [go_sem,simprocAttr,h0,h1,h5,Int.natCast_succ]
  ·(have hWf:=w3 @h0 @h1 @h5;repeat' (first|refine zS ?_|refine zI ?_ ?_|exact zF0|refine zD fun hb=>?_|exact zC|refine zT ?_|fail))
theorem WW(xs:List MNode)(hs:smS MNode.sm xs)(k:Int)(h0:0<=k)(hk:k+cnts MNode.cnt xs<=4611686018427387904):FT 56 [.osl 163 6 (xs.map MNode.own),.s (.int .i64 k)] (fun r o=>r=.s (.int .i64 (k+cnts MNode.cnt xs))/\o=[.osl 163 6 ((marks MNode.cnt MNode.mark k xs).map MNode.own),.un]):=by
 refine FI PM Tryz.func56 Tryz.ntmps56 [] rfl rfl ?_
 (have hWf:=f0;repeat' (first|refine zS ?_|refine zI ?_ ?_|exact zF0|refine zD fun hb=>?_|exact zC|refine zT ?_|fail))
 refine Xw (fun n σ=>∃ i:Nat,i<=xs.length/\n=xs.length - i/\σ.t 0=.bs 900000 6 xs.length/\σ.t 1=.s (.int .i64 (k+cnts MNode.cnt (xs.take i)))/\σ.t 5=.s (.int .i64 i)/\σ.b 900000=some (.arr 163 6 ((stM MNode.cnt MNode.mark k xs i).map MNode.own))) xs.length ⟨0,by omega,by omega,?_⟩ ?_
 ·simp only [go_sem,simprocAttr,Int.natCast_zero,ux,List.take_zero,cnts,Int.add_zero]
 ·rintro n σ ⟨i,hi,rfl,h0,h1,h5,h9⟩ K' hK
  by_cases hlt:i<xs.length
  ·have hc:=zt (c:=MNode.cnt) hlt
   have hc':=uE (c:=MNode.cnt) xs (i+1);have hx:=vA (c:=MNode.cnt) (m:=MNode.mark) k hlt MNode.own;have hpl:=vB (c:=MNode.cnt) (m:=MNode.mark) k (Nat.le_of_lt hlt);have hst:=uP (c:=MNode.cnt) (m:=MNode.mark) k hlt MNode.own;have hgs:∀ r,(((stM MNode.cnt MNode.mark k xs i).map MNode.own).set i r).getD i []=r:=fun r=>by rw [List.getD_eq_getElem?_getD,List.getElem?_set_self (by rw [List.length_map,hpl];exact hlt)];rfl
   simp only [MNode.own_eq,MNode.mark] at hx hst
   simp only [MNode.cnt] at hc
   have hrow:((stM MNode.cnt MNode.mark k xs i).map MNode.own)[i]?=some (MNode.own xs[i]):=by
    have h1:i<((stM MNode.cnt MNode.mark k xs i).map MNode.own).length:=by simpa [hpl] using hlt
    rw [List.getElem?_eq_getElem h1,<- ym (List.getElem?_eq_getElem h1),hx]
    rfl
   have hsx:=hs.2 _ (List.getElem_mem hlt);have hl:=hs.1
   (refine xj ?_;simp only [go_sem,simprocAttr,h0,h1,h5];(have hWf:=w3 @h0 @h1 @h5;repeat' (first|refine zY ?_|refine zI ?_ ?_|exact zF1|refine zD fun hb=>?_|exact zC|refine zT ?_|fail)))
   (refine xj ?_;simp only [go_sem,simprocAttr,h0,h1,h5];(have hWf:=w3 @h0 @h1 @h5;repeat' (first|refine zY ?_|refine zI ?_ ?_|exact zF1|refine zD fun hb=>?_|exact zC|refine zT ?_|fail)))
   (refine xj ?_;simp only [go_sem,simprocAttr,h0,h1,h5];(have hWf:=w3 @h0 @h1 @h5;repeat' (first|refine zY ?_|refine zI ?_ ?_|exact zF1|refine zD fun hb=>?_|exact zC|refine zT ?_|fail)))
   (refine xj ?_;simp only [go_sem,simprocAttr,h0,h1,h5,h9,hx,hpl,hgs,List.set_set,List.length_set,MNode.own_eq];(have hWf:=w8 @h0 @h1 @h5 @h9 @hx @hpl @hgs @MNode.own_eq;repeat' (first|refine zY ?_|refine zI ?_ ?_|exact zF1|refine zD fun hb=>?_|exact zC|refine zT ?_|fail)))
   (refine xj ?_;simp only [go_sem,simprocAttr,h0,h1,h5,h9,hx,hpl,hgs,List.set_set,List.length_set,MNode.own_eq];(have hWf:=w8 @h0 @h1 @h5 @h9 @hx @hpl @hgs @MNode.own_eq;repeat' (first|refine zY ?_|refine zI ?_ ?_|exact zF1|refine zD fun hb=>?_|exact zC|refine zT ?_|fail)))
   (refine xj ?_;simp only [go_sem,simprocAttr,h0,h1,h5,h9,hx,hpl,hgs,List.set_set,List.length_set,MNode.own_eq];(have hWf:=w8 @h0 @h1 @h5 @h9 @hx @hpl @hgs @MNode.own_eq;repeat' (first|refine zY ?_|refine zI ?_ ?_|exact zF1|refine zD fun hb=>?_|exact zC|refine zT ?_|fail)))
   (refine xj ?_;simp only [go_sem,simprocAttr,h0,h1,h5,h9,hx,hpl,hgs,List.set_set,List.length_set,MNode.own_eq];(have hWf:=w8 @h0 @h1 @h5 @h9 @hx @hpl @hgs @MNode.own_eq;repeat' (first|refine zY ?_|refine zI ?_ ?_|exact zF1|refine zD fun hb=>?_|exact zC|refine zT ?_|fail)))
   (refine xj ?_;simp only [go_sem,simprocAttr,h0,h1,h5,h9,hx,hpl,hgs,List.set_set,List.length_set,MNode.own_eq];(have hWf:=w8 @h0 @h1 @h5 @h9 @hx @hpl @hgs @MNode.own_eq;repeat' (first|refine zY ?_|refine zI ?_ ?_|exact zF1|refine zD fun hb=>?_|exact zC|refine zT ?_|fail)))
   (refine xj ?_;simp only [go_sem,simprocAttr,h0,h1,h5,h9,hx,hpl,hgs,List.set_set,List.length_set,MNode.own_eq];(have hWf:=w8 @h0 @h1 @h5 @h9 @hx @hpl @hgs @MNode.own_eq;repeat' (first|refine zY ?_|refine zI ?_ ?_|exact zF1|refine zD fun hb=>?_|exact zC|refine zT ?_|fail)))
   (refine xj ?_;simp only [go_sem,simprocAttr,h0,h1,h5,h9,hx,hpl,hgs,List.set_set,List.length_set,MNode.own_eq];(have hWf:=w8 @h0 @h1 @h5 @h9 @hx @hpl @hgs @MNode.own_eq;repeat' (first|refine zY ?_|refine zI ?_ ?_|((with_reducible apply xc);refine zG (yN ((((k+(cnts MNode.cnt (xs.take i):Nat))+1)+1)+1) (by omega)) ?_)|((with_reducible apply xf);refine xe (yN ((((k+(cnts MNode.cnt (xs.take i):Nat))+1)+1)+1) (by omega)) ?_)|exact zF1|refine zD fun hb=>?_|exact zC|refine zT ?_|fail)))
   (refine xj ?_;simp only [go_sem,simprocAttr,h0,h1,h5,h9,hx,hpl,hgs,List.set_set,List.length_set,MNode.own_eq];(have hWf:=w8 @h0 @h1 @h5 @h9 @hx @hpl @hgs @MNode.own_eq;repeat' (first|refine zY ?_|refine zI ?_ ?_|exact zF1|refine zD fun hb=>?_|exact zC|refine zT ?_|fail)))
   refine Xp 900000 i 4 1000000004 (e:=163) (k:=6) (rows:=((stM MNode.cnt MNode.mark k xs i).map MNode.own).set i [.s (.int .i64 (k+(cnts MNode.cnt (xs.take i):Nat))),.s (.int .i64 ((k+(cnts MNode.cnt (xs.take i):Nat))+1)),.s (.int .i64 (((k+(cnts MNode.cnt (xs.take i):Nat))+1)+1)),.s (.string (mkB ((((k+(cnts MNode.cnt (xs.take i):Nat))+1)+1)+1))),.osl 3 1 (xs[i].kids.map iE),.osl 62 1 (xs[i].pats.map MPat.own)]) (row:=[.s (.int .i64 (k+(cnts MNode.cnt (xs.take i):Nat))),.s (.int .i64 ((k+(cnts MNode.cnt (xs.take i):Nat))+1)),.s (.int .i64 (((k+(cnts MNode.cnt (xs.take i):Nat))+1)+1)),.s (.string (mkB ((((k+(cnts MNode.cnt (xs.take i):Nat))+1)+1)+1))),.osl 3 1 (xs[i].kids.map iE),.osl 62 1 (xs[i].pats.map MPat.own)]) (d:=.osl 3 1 (xs[i].kids.map iE)) (by simp only [go_sem,simprocAttr,h9]) (List.getElem?_set_self (by rw [List.length_map,hpl];exact hlt)) rfl rfl (by decide) (by decide) ?_
   (refine xj ?_;simp only [go_sem,simprocAttr,h0,h1,h5,h9,hx,hpl,hgs,List.set_set,List.length_set,MNode.own_eq,xk];(have hWf:=w9 @h0 @h1 @h5 @h9 @hx @hpl @hgs @MNode.own_eq @xk;repeat' (first|refine zY ?_|refine zI ?_ ?_|((with_reducible apply xc);refine xh (uX xs[i].kids (hsx.2.1).1 _ (by omega) (by omega)) ?_;rintro _ _ ⟨rfl,rfl⟩)|((with_reducible apply xf);refine xe (uX xs[i].kids (hsx.2.1).1 _ (by omega) (by omega)) ?_)|exact zF1|refine zD fun hb=>?_|exact zC|refine zT ?_|fail)))
   refine AC_close 900000 1000000004 (e:=163) (k:=6) (i:=i) (j:=4) (rows:=((stM MNode.cnt MNode.mark k xs i).map MNode.own).set i [.s (.int .i64 (k+(cnts MNode.cnt (xs.take i):Nat))),.s (.int .i64 ((k+(cnts MNode.cnt (xs.take i):Nat))+1)),.s (.int .i64 (((k+(cnts MNode.cnt (xs.take i):Nat))+1)+1)),.s (.string (mkB ((((k+(cnts MNode.cnt (xs.take i):Nat))+1)+1)+1))),.osl 3 1 (xs[i].kids.map iE),.osl 62 1 (xs[i].pats.map MPat.own)]) (r:=.bs 1000000004 1 xs[i].kids.length) (d:=.osl 3 1 ((marks (fun _:Int=>1) (fun k _=>k) (((((k+(cnts MNode.cnt (xs.take i):Nat))+1)+1)+1)+1) xs[i].kids).map iE)) (ob:=1=1/\xs[i].kids.length<=((marks (fun _:Int=>1) (fun k _=>k) (((((k+(cnts MNode.cnt (xs.take i):Nat))+1)+1)+1)+1) xs[i].kids).map iE).length) ?_ ?_ ⟨rfl,by rw [List.length_map,xk];exact Nat.le_refl _⟩ rfl (by decide) ?_
   ·simp only [go_sem,simprocAttr,h9,hgs]
   ·simp only [go_sem,simprocAttr,xk]
   refine Xp 900000 i 5 1000000005 (e:=163) (k:=6) (rows:=((stM MNode.cnt MNode.mark k xs i).map MNode.own).set i [.s (.int .i64 (k+(cnts MNode.cnt (xs.take i):Nat))),.s (.int .i64 ((k+(cnts MNode.cnt (xs.take i):Nat))+1)),.s (.int .i64 (((k+(cnts MNode.cnt (xs.take i):Nat))+1)+1)),.s (.string (mkB ((((k+(cnts MNode.cnt (xs.take i):Nat))+1)+1)+1))),.osl 3 1 ((marks (fun _:Int=>1) (fun k _=>k) (((((k+(cnts MNode.cnt (xs.take i):Nat))+1)+1)+1)+1) xs[i].kids).map iE),.osl 62 1 (xs[i].pats.map MPat.own)]) (row:=[.s (.int .i64 (k+(cnts MNode.cnt (xs.take i):Nat))),.s (.int .i64 ((k+(cnts MNode.cnt (xs.take i):Nat))+1)),.s (.int .i64 (((k+(cnts MNode.cnt (xs.take i):Nat))+1)+1)),.s (.string (mkB ((((k+(cnts MNode.cnt (xs.take i):Nat))+1)+1)+1))),.osl 3 1 ((marks (fun _:Int=>1) (fun k _=>k) (((((k+(cnts MNode.cnt (xs.take i):Nat))+1)+1)+1)+1) xs[i].kids).map iE),.osl 62 1 (xs[i].pats.map MPat.own)]) (d:=.osl 62 1 (xs[i].pats.map MPat.own)) (by simp only [go_sem,simprocAttr,h9,hx,hgs,List.set_set,List.set_cons_succ,List.set_cons_zero]) (List.getElem?_set_self (by rw [List.length_map,hpl];exact hlt)) rfl rfl (by decide) (by decide) ?_
   (have hWf:=w9 @h0 @h1 @h5 @h9 @hx @hpl @hgs @MNode.own_eq @xk;repeat' (first|refine zS ?_|refine zI ?_ ?_|((with_reducible apply xc);refine xh (YQ xs[i].pats (hsx.2.2) _ (by omega) (by omega)) ?_;rintro _ _ ⟨rfl,rfl⟩)|((with_reducible apply xf);refine xe (YQ xs[i].pats (hsx.2.2) _ (by omega) (by omega)) ?_)|exact zF0|refine zD fun hb=>?_|exact zC|refine zT ?_|fail))
   refine hK (xs.length - (i+1)) _ _ (by omega) (vo 900000 1000000005 (e:=163) (k:=6) (i:=i) (j:=5) (rows:=((stM MNode.cnt MNode.mark k xs i).map MNode.own).set i [.s (.int .i64 (k+(cnts MNode.cnt (xs.take i):Nat))),.s (.int .i64 ((k+(cnts MNode.cnt (xs.take i):Nat))+1)),.s (.int .i64 (((k+(cnts MNode.cnt (xs.take i):Nat))+1)+1)),.s (.string (mkB ((((k+(cnts MNode.cnt (xs.take i):Nat))+1)+1)+1))),.osl 3 1 ((marks (fun _:Int=>1) (fun k _=>k) (((((k+(cnts MNode.cnt (xs.take i):Nat))+1)+1)+1)+1) xs[i].kids).map iE),.osl 62 1 (xs[i].pats.map MPat.own)]) (r:=.bs 1000000005 1 xs[i].pats.length) (d:=.osl 62 1 ((marks MPat.cnt MPat.mark ((((((k+(cnts MNode.cnt (xs.take i):Nat))+1)+1)+1)+1)+(cnts (fun _:Int=>1) xs[i].kids:Nat)) xs[i].pats).map MPat.own)) (ob:=1=1/\xs[i].pats.length<=((marks MPat.cnt MPat.mark ((((((k+(cnts MNode.cnt (xs.take i):Nat))+1)+1)+1)+1)+(cnts (fun _:Int=>1) xs[i].kids:Nat)) xs[i].pats).map MPat.own).length) ?_ ?_ ⟨rfl,by rw [List.length_map,xk];exact Nat.le_refl _⟩ rfl (by decide)) ⟨i+1,by omega,rfl,?_⟩
   ·simp only [go_sem,simprocAttr,h9,hgs]
   ·simp only [go_sem,simprocAttr,xk]
   ·simp only [go_sem,simprocAttr,h0,h1,h5,h9,Int.natCast_succ,hx,hst,hgs,List.set_set,List.set_cons_succ,List.set_cons_zero]
    exact xq (by rw [hc];push_cast;omega)
  ·obtain rfl:i=xs.length:=by omega
   rw [vz] at h9
   rw [List.take_length] at h1
   (have hWf:=w5 @h0 @h1 @h5 @h9 @xk;repeat' (first|refine zS ?_|refine zI ?_ ?_|exact zF0|refine zD fun hb=>?_|exact zC|refine zT ?_|fail))
end
section
attribute [local go_sem] List.length_set List.set_set
open Go.RowKit Go.ChangeShapes Go.WideShapes
structure MCon where
 name:ByteArray
 has:Bool
 arg:List TyI
def MCon.enc(x:MCon):List D:=[.s (.string x.name),.s (.bool x.has),.sl 3 (x.arg.map TyI.enc)]
theorem MCon.enc_eq(x:MCon):x.enc=[.s (.string x.name),.s (.bool x.has),.sl 3 (x.arg.map TyI.enc)]:=rfl
def MCon.own(x:MCon):List D:=[.s (.string x.name),.s (.bool x.has),.osl 143 3 (x.arg.map TyI.own)]
theorem MCon.own_eq(x:MCon):x.own=[.s (.string x.name),.s (.bool x.has),.osl 143 3 (x.arg.map TyI.own)]:=rfl
theorem MCon.frz_eq(x:MCon):frzL x.own=x.enc:=by
 simp only [MCon.own_eq,MCon.enc_eq,frzL,frz,x9 TyI.frz_eq]
def MCon.ok(x:MCon):Prop:=x.name.size<=maxLen/\True/\(∀ y∈x.arg,y.ok)
def MCon.sm(x:MCon):Prop:=x.name.size<=1048576/\smS TyI.sm x.arg
def MCon.cnt(x:MCon):Nat:=1+1+cnts TyI.cnt x.arg
def MCon.mark(k:Int)(x:MCon):MCon:=⟨mkB k,(Int.tmod (k+1) 3==0),marks TyI.cnt TyI.mark ((k+1)+1) x.arg⟩
theorem MCon.cnt_eq(x:MCon):x.cnt=1+1+cnts TyI.cnt x.arg:=rfl
theorem MCon.pure(x:MCon):∀ d∈x.own,Pure d:=by
 simp only [MCon.own_eq,List.forall_mem_cons,List.not_mem_nil,false_imp_iff,implies_true,and_true];exact ⟨.s _,.s _,xP TyI.pure _ _ _⟩
theorem MCon.pureS(e k:Nat)(xs:List MCon):Pure (.osl e k (xs.map MCon.own))=True:=eq_true (xP MCon.pure e k xs)
attribute [go_sem] MCon.pureS
theorem c_toCon(x:MCon)(hs:x.sm):FT 181 [.ag x.enc] (fun r _=>r=.ag x.own):=by
 refine FI PM Tryz.func181 Tryz.ntmps181 [] rfl rfl ?_
 (have hWf:=w4 @MCon.enc_eq @MCon.own_eq @MTy.enc_eq @MTy.own_eq;repeat' (first|refine zS ?_|refine zI ?_ ?_|refine zK (c_toTy ⟨x.arg⟩ (hs.2)) ?_|exact zF0|refine zD fun hb=>?_|exact zC|refine zT ?_|fail))
theorem c_toConS(xs:List MCon)(hs:smS MCon.sm xs):FT 134 [.sl 3 (xs.map MCon.enc)] (fun r _=>r=.osl 141 3 (xs.map MCon.own)):=by
 have hl:=hs.1;refine FI PM Tryz.func134 Tryz.ntmps134 [] rfl rfl ?_
 (have hWf:=f0;repeat' (first|refine zS ?_|refine zI ?_ ?_|exact zF0|refine zD fun hb=>?_|exact zC|refine zT ?_|fail))
 refine xd (fun n σ=>∃ k:Nat,k<=xs.length/\n=xs.length - k/\σ.t 0=.sl 3 (xs.map MCon.enc)/\σ.t 3=.bs 7 3 xs.length/\σ.t 4=.s (.int .i64 k)/\σ.b 7=some (.arr 141 3 (zn MCon.own [.s (.string ⟨#[]⟩),.s (.bool false),.nil] xs k))) xs.length ⟨0,by omega,by omega,?_⟩ ?_
 ·simp only [go_sem,simprocAttr,z8,Int.natCast_zero]
 ·rintro n σ ⟨k,hk,rfl,h0,h3,h4,h7⟩ K' hK
  by_cases hlt:k<xs.length
  ·have hx:=xb MCon.enc xs k hlt
   have he:=MCon.enc_eq xs[k];have hpl:=wO (f:=MCon.own) (z:=[.s (.string ⟨#[]⟩),.s (.bool false),.nil]) (Nat.le_of_lt hlt);have hg:=wM (f:=MCon.own) (z:=[.s (.string ⟨#[]⟩),.s (.bool false),.nil]) hlt;have hst:=wP (f:=MCon.own) (z:=[.s (.string ⟨#[]⟩),.s (.bool false),.nil]) hlt;rw [MCon.own_eq] at hst
   (have hWf:=w10 @h0 @h3 @h4 @h7 @hx @he @MCon.own_eq @hpl @hg @hst;repeat' (first|refine zS ?_|refine zI ?_ ?_|((with_reducible apply xc);refine zG (c_toCon xs[k] (hs.2 _ (List.getElem_mem hlt))) ?_)|((with_reducible apply xf);refine xe (c_toCon xs[k] (hs.2 _ (List.getElem_mem hlt))) ?_)|exact zF0|refine zD fun hb=>?_|exact zC|refine zT ?_|fail))
   refine hK (xs.length - (k+1)) _ (by omega) ⟨k+1,by omega,rfl,?_⟩
   simp only [go_sem,simprocAttr,h0,h3,h4,h7,Int.natCast_succ]
  ·obtain rfl:k=xs.length:=by omega
   rw [wL] at h7
   (have hWf:=w4 @h0 @h3 @h4 @h7;repeat' (first|refine zS ?_|refine zI ?_ ?_|exact zF0|refine zD fun hb=>?_|exact zC|refine zT ?_|fail))
theorem c_eqCon(x:MCon):FT 195 [.ag x.enc,.ag x.enc] (fun r _=>r=.s (.bool true)):=by
 refine FI PM Tryz.func195 Tryz.ntmps195 [] rfl rfl ?_
 (have hWf:=w2 @MCon.enc_eq @MTy.enc_eq;repeat' (first|refine zS ?_|refine zI ?_ ?_|refine zK (c_eqTy ⟨x.arg⟩) ?_|exact zF0|refine zD fun hb=>?_|exact zC|refine zT ?_|fail))
theorem c_eqConS(xs:List MCon):FT 155 [.sl 3 (xs.map MCon.enc),.sl 3 (xs.map MCon.enc)] (fun r _=>r=.s (.bool true)):=by
 refine FI PM Tryz.func155 Tryz.ntmps155 [(6,8,[],[],(lin [] [0,1,2,3,4,5,6,7]))] rfl rfl ?_;refine yr 0 rfl trivial fun hlen=>?_
 simp only [List.length_map] at hlen
 (have hWf:=f0;repeat' (first|refine zS ?_|refine zI ?_ ?_|exact zF0|refine zD fun hb=>?_|exact zC|refine zT ?_|fail))
 refine xd (fun n σ=>∃ k:Nat,k<=xs.length/\n=xs.length - k/\σ.t 0=.sl 3 (xs.map MCon.enc)/\σ.t 1=.sl 3 (xs.map MCon.enc)/\σ.t 5=.s (.int .i64 k)) xs.length ⟨0,by omega,by omega,?_⟩ ?_
 ·simp only [go_sem,simprocAttr,Int.natCast_zero]
 ·rintro n σ ⟨k,hk,rfl,h0,h1,h5⟩ K' hK
  by_cases hlt:k<xs.length
  ·have hx:=xb MCon.enc xs k hlt
   have he:=MCon.enc_eq xs[k]
   (have hWf:=w5 @h0 @h1 @h5 @hx @he;repeat' (first|refine zS ?_|refine zI ?_ ?_|refine zK (c_eqCon xs[k]) ?_|exact zF0|refine zD fun hb=>?_|exact zC|refine zT ?_|fail))
   all_goals
    refine hK (xs.length - (k+1)) _ (by omega) ⟨k+1,by omega,rfl,?_⟩
    simp only [go_sem,simprocAttr,h0,h1,h5,Int.natCast_succ]
  ·(have hWf:=w3 @h0 @h1 @h5;repeat' (first|refine zS ?_|refine zI ?_ ?_|exact zF0|refine zD fun hb=>?_|exact zC|refine zT ?_|fail))
theorem Ve(xs:List MCon)(hs:smS MCon.sm xs)(k:Int)(h0:0<=k)(hk:k+cnts MCon.cnt xs<=4611686018427387904):FT 111 [.osl 141 3 (xs.map MCon.own),.s (.int .i64 k)] (fun r o=>r=.s (.int .i64 (k+cnts MCon.cnt xs))/\o=[.osl 141 3 ((marks MCon.cnt MCon.mark k xs).map MCon.own),.un]):=by
 refine FI PM Tryz.func111 Tryz.ntmps111 [] rfl rfl ?_
 (have hWf:=f0;repeat' (first|refine zS ?_|refine zI ?_ ?_|exact zF0|refine zD fun hb=>?_|exact zC|refine zT ?_|fail))
 refine Xw (fun n σ=>∃ i:Nat,i<=xs.length/\n=xs.length - i/\σ.t 0=.bs 900000 3 xs.length/\σ.t 1=.s (.int .i64 (k+cnts MCon.cnt (xs.take i)))/\σ.t 5=.s (.int .i64 i)/\σ.b 900000=some (.arr 141 3 ((stM MCon.cnt MCon.mark k xs i).map MCon.own))) xs.length ⟨0,by omega,by omega,?_⟩ ?_
 ·simp only [go_sem,simprocAttr,Int.natCast_zero,ux,List.take_zero,cnts,Int.add_zero]
 ·rintro n σ ⟨i,hi,rfl,h0,h1,h5,h9⟩ K' hK
  by_cases hlt:i<xs.length
  ·have hc:=zt (c:=MCon.cnt) hlt
   have hc':=uE (c:=MCon.cnt) xs (i+1);have hx:=vA (c:=MCon.cnt) (m:=MCon.mark) k hlt MCon.own;have hpl:=vB (c:=MCon.cnt) (m:=MCon.mark) k (Nat.le_of_lt hlt);have hst:=uP (c:=MCon.cnt) (m:=MCon.mark) k hlt MCon.own;have hgs:∀ r,(((stM MCon.cnt MCon.mark k xs i).map MCon.own).set i r).getD i []=r:=fun r=>by rw [List.getD_eq_getElem?_getD,List.getElem?_set_self (by rw [List.length_map,hpl];exact hlt)];rfl
   simp only [MCon.own_eq,MCon.mark] at hx hst
   simp only [MCon.cnt] at hc
   have hrow:((stM MCon.cnt MCon.mark k xs i).map MCon.own)[i]?=some (MCon.own xs[i]):=by
    have h1:i<((stM MCon.cnt MCon.mark k xs i).map MCon.own).length:=by simpa [hpl] using hlt
    rw [List.getElem?_eq_getElem h1,<- ym (List.getElem?_eq_getElem h1),hx]
    rfl
   have hsx:=hs.2 _ (List.getElem_mem hlt);have hl:=hs.1
   (refine xj ?_;simp only [go_sem,simprocAttr,h0,h1,h5];(have hWf:=w3 @h0 @h1 @h5;repeat' (first|refine zY ?_|refine zI ?_ ?_|exact zF1|refine zD fun hb=>?_|exact zC|refine zT ?_|fail)))
   (refine xj ?_;simp only [go_sem,simprocAttr,h0,h1,h5];(have hWf:=w3 @h0 @h1 @h5;repeat' (first|refine zY ?_|refine zI ?_ ?_|exact zF1|refine zD fun hb=>?_|exact zC|refine zT ?_|fail)))
   (refine xj ?_;simp only [go_sem,simprocAttr,h0,h1,h5];(have hWf:=w3 @h0 @h1 @h5;repeat' (first|refine zY ?_|refine zI ?_ ?_|exact zF1|refine zD fun hb=>?_|exact zC|refine zT ?_|fail)))
   (refine xj ?_;simp only [go_sem,simprocAttr,h0,h1,h5,h9,hx,hpl,hgs,List.set_set,List.length_set,MCon.own_eq];(have hWf:=w8 @h0 @h1 @h5 @h9 @hx @hpl @hgs @MCon.own_eq;repeat' (first|refine zY ?_|refine zI ?_ ?_|((with_reducible apply xc);refine zG (yN (k+(cnts MCon.cnt (xs.take i):Nat)) (by omega)) ?_)|refine zU (yN (k+(cnts MCon.cnt (xs.take i):Nat)) (by omega)) ?_|exact zF1|refine zD fun hb=>?_|exact zC|refine zT ?_|fail)))
   (refine xj ?_;simp only [go_sem,simprocAttr,h0,h1,h5,h9,hx,hpl,hgs,List.set_set,List.length_set,MCon.own_eq];(have hWf:=w8 @h0 @h1 @h5 @h9 @hx @hpl @hgs @MCon.own_eq;repeat' (first|refine zY ?_|refine zI ?_ ?_|exact zF1|refine zD fun hb=>?_|exact zC|refine zT ?_|fail)))
   (refine xj ?_;simp only [go_sem,simprocAttr,h0,h1,h5,h9,hx,hpl,hgs,List.set_set,List.length_set,MCon.own_eq];(have hWf:=w8 @h0 @h1 @h5 @h9 @hx @hpl @hgs @MCon.own_eq;repeat' (first|refine zY ?_|refine zI ?_ ?_|exact zF1|refine zD fun hb=>?_|exact zC|refine zT ?_|fail)))
   (refine xj ?_;simp only [go_sem,simprocAttr,h0,h1,h5,h9,hx,hpl,hgs,List.set_set,List.length_set,MCon.own_eq];(have hWf:=w8 @h0 @h1 @h5 @h9 @hx @hpl @hgs @MCon.own_eq;repeat' (first|refine zY ?_|refine zI ?_ ?_|exact zF1|refine zD fun hb=>?_|exact zC|refine zT ?_|fail)))
   refine Xp 900000 i 2 1000000002 (e:=141) (k:=3) (rows:=((stM MCon.cnt MCon.mark k xs i).map MCon.own).set i [.s (.string (mkB (k+(cnts MCon.cnt (xs.take i):Nat)))),.s (.bool (Int.tmod ((k+(cnts MCon.cnt (xs.take i):Nat))+1) 3==0)),.osl 143 3 (xs[i].arg.map TyI.own)]) (row:=[.s (.string (mkB (k+(cnts MCon.cnt (xs.take i):Nat)))),.s (.bool (Int.tmod ((k+(cnts MCon.cnt (xs.take i):Nat))+1) 3==0)),.osl 143 3 (xs[i].arg.map TyI.own)]) (d:=.osl 143 3 (xs[i].arg.map TyI.own)) (by simp only [go_sem,simprocAttr,h9]) (List.getElem?_set_self (by rw [List.length_map,hpl];exact hlt)) rfl rfl (by decide) (by decide) ?_
   (have hWf:=w9 @h0 @h1 @h5 @h9 @hx @hpl @hgs @MCon.own_eq @xk;repeat' (first|refine zS ?_|refine zI ?_ ?_|((with_reducible apply xc);refine xh (Zn xs[i].arg (hsx.2).1 _ (by omega) (by omega)) ?_;rintro _ _ ⟨rfl,rfl⟩)|((with_reducible apply xf);refine xe (Zn xs[i].arg (hsx.2).1 _ (by omega) (by omega)) ?_)|exact zF0|refine zD fun hb=>?_|exact zC|refine zT ?_|fail))
   refine hK (xs.length - (i+1)) _ _ (by omega) (vo 900000 1000000002 (e:=141) (k:=3) (i:=i) (j:=2) (rows:=((stM MCon.cnt MCon.mark k xs i).map MCon.own).set i [.s (.string (mkB (k+(cnts MCon.cnt (xs.take i):Nat)))),.s (.bool (Int.tmod ((k+(cnts MCon.cnt (xs.take i):Nat))+1) 3==0)),.osl 143 3 (xs[i].arg.map TyI.own)]) (r:=.bs 1000000002 3 xs[i].arg.length) (d:=.osl 143 3 ((marks TyI.cnt TyI.mark (((k+(cnts MCon.cnt (xs.take i):Nat))+1)+1) xs[i].arg).map TyI.own)) (ob:=3=3/\xs[i].arg.length<=((marks TyI.cnt TyI.mark (((k+(cnts MCon.cnt (xs.take i):Nat))+1)+1) xs[i].arg).map TyI.own).length) ?_ ?_ ⟨rfl,by rw [List.length_map,xk];exact Nat.le_refl _⟩ rfl (by decide)) ⟨i+1,by omega,rfl,?_⟩
   ·simp only [go_sem,simprocAttr,h9,hgs]
   ·simp only [go_sem,simprocAttr,xk]
   ·simp only [go_sem,simprocAttr,h0,h1,h5,h9,Int.natCast_succ,hx,hst,hgs,List.set_set,List.set_cons_succ,List.set_cons_zero]
    exact xq (by rw [hc];push_cast;omega)
  ·obtain rfl:i=xs.length:=by omega
   rw [vz] at h9
   rw [List.take_length] at h1
   (have hWf:=w5 @h0 @h1 @h5 @h9 @xk;repeat' (first|refine zS ?_|refine zI ?_ ?_|exact zF0|refine zD fun hb=>?_|exact zC|refine zT ?_|fail))
end
section
attribute [local go_sem] List.length_set List.set_set
open Go.RowKit Go.ChangeShapes Go.WideShapes
structure MType where
 name:ByteArray
 params:Int
 cons:List MCon
def MType.enc(x:MType):List D:=[.s (.string x.name),.s (.int .i64 x.params),.sl 3 (x.cons.map MCon.enc)]
theorem MType.enc_eq(x:MType):x.enc=[.s (.string x.name),.s (.int .i64 x.params),.sl 3 (x.cons.map MCon.enc)]:=rfl
def MType.own(x:MType):List D:=[.s (.string x.name),.s (.int .i64 x.params),.osl 141 3 (x.cons.map MCon.own)]
theorem MType.own_eq(x:MType):x.own=[.s (.string x.name),.s (.int .i64 x.params),.osl 141 3 (x.cons.map MCon.own)]:=rfl
theorem MType.frz_eq(x:MType):frzL x.own=x.enc:=by
 simp only [MType.own_eq,MType.enc_eq,frzL,frz,x9 MCon.frz_eq]
def MType.ok(x:MType):Prop:=x.name.size<=maxLen/\I64 x.params/\(∀ y∈x.cons,y.ok)
def MType.sm(x:MType):Prop:=x.name.size<=1048576/\smS MCon.sm x.cons
def MType.cnt(x:MType):Nat:=1+1+cnts MCon.cnt x.cons
def MType.mark(k:Int)(x:MType):MType:=⟨mkB k,(k+1),marks MCon.cnt MCon.mark ((k+1)+1) x.cons⟩
theorem MType.cnt_eq(x:MType):x.cnt=1+1+cnts MCon.cnt x.cons:=rfl
theorem MType.pure(x:MType):∀ d∈x.own,Pure d:=by
 simp only [MType.own_eq,List.forall_mem_cons,List.not_mem_nil,false_imp_iff,implies_true,and_true];exact ⟨.s _,.s _,xP MCon.pure _ _ _⟩
theorem MType.pureS(e k:Nat)(xs:List MType):Pure (.osl e k (xs.map MType.own))=True:=eq_true (xP MType.pure e k xs)
attribute [go_sem] MType.pureS
theorem MType.frzS(xs:List MType):xu (xs.map MType.own)=xs.map MType.enc:=x9 MType.frz_eq xs
attribute [go_sem] MType.frzS
theorem xa5(x:MType)(hs:x.sm):FT 83 [.ag x.enc] (fun r _=>r=.ag x.own):=by
 refine FI PM Tryz.func83 Tryz.ntmps83 [] rfl rfl ?_
 (have hWf:=w2 @MType.enc_eq @MType.own_eq;repeat' (first|refine zS ?_|refine zI ?_ ?_|refine zK (c_toConS x.cons (hs.2)) ?_|exact zF0|refine zD fun hb=>?_|exact zC|refine zT ?_|fail))
theorem c_toTypeS(xs:List MType)(hs:smS MType.sm xs):FT 40 [.sl 3 (xs.map MType.enc)] (fun r _=>r=.osl 137 3 (xs.map MType.own)):=by
 have hl:=hs.1;refine FI PM Tryz.func40 Tryz.ntmps40 [] rfl rfl ?_
 (have hWf:=f0;repeat' (first|refine zS ?_|refine zI ?_ ?_|exact zF0|refine zD fun hb=>?_|exact zC|refine zT ?_|fail))
 refine xd (fun n σ=>∃ k:Nat,k<=xs.length/\n=xs.length - k/\σ.t 0=.sl 3 (xs.map MType.enc)/\σ.t 3=.bs 7 3 xs.length/\σ.t 4=.s (.int .i64 k)/\σ.b 7=some (.arr 137 3 (zn MType.own [.s (.string ⟨#[]⟩),.s (.int .i64 0),.nil] xs k))) xs.length ⟨0,by omega,by omega,?_⟩ ?_
 ·simp only [go_sem,simprocAttr,z8,Int.natCast_zero]
 ·rintro n σ ⟨k,hk,rfl,h0,h3,h4,h7⟩ K' hK
  by_cases hlt:k<xs.length
  ·have hx:=xb MType.enc xs k hlt
   have he:=MType.enc_eq xs[k];have hpl:=wO (f:=MType.own) (z:=[.s (.string ⟨#[]⟩),.s (.int .i64 0),.nil]) (Nat.le_of_lt hlt);have hg:=wM (f:=MType.own) (z:=[.s (.string ⟨#[]⟩),.s (.int .i64 0),.nil]) hlt;have hst:=wP (f:=MType.own) (z:=[.s (.string ⟨#[]⟩),.s (.int .i64 0),.nil]) hlt;rw [MType.own_eq] at hst
   (have hWf:=w10 @h0 @h3 @h4 @h7 @hx @he @MType.own_eq @hpl @hg @hst;repeat' (first|refine zS ?_|refine zI ?_ ?_|((with_reducible apply xc);refine zG (xa5 xs[k] (hs.2 _ (List.getElem_mem hlt))) ?_)|((with_reducible apply xf);refine xe (xa5 xs[k] (hs.2 _ (List.getElem_mem hlt))) ?_)|exact zF0|refine zD fun hb=>?_|exact zC|refine zT ?_|fail))
   refine hK (xs.length - (k+1)) _ (by omega) ⟨k+1,by omega,rfl,?_⟩
   simp only [go_sem,simprocAttr,h0,h3,h4,h7,Int.natCast_succ]
  ·obtain rfl:k=xs.length:=by omega
   rw [wL] at h7
   (have hWf:=w4 @h0 @h3 @h4 @h7;repeat' (first|refine zS ?_|refine zI ?_ ?_|exact zF0|refine zD fun hb=>?_|exact zC|refine zT ?_|fail))
theorem c_eqType(x:MType):FT 107 [.ag x.enc,.ag x.enc] (fun r _=>r=.s (.bool true)):=by
 refine FI PM Tryz.func107 Tryz.ntmps107 [] rfl rfl ?_
 (have hWf:=w1 @MType.enc_eq;repeat' (first|refine zS ?_|refine zI ?_ ?_|refine zK (c_eqConS x.cons) ?_|exact zF0|refine zD fun hb=>?_|exact zC|refine zT ?_|fail))
theorem c_eqTypeS(xs:List MType):FT 52 [.sl 3 (xs.map MType.enc),.sl 3 (xs.map MType.enc)] (fun r _=>r=.s (.bool true)):=by
 refine FI PM Tryz.func52 Tryz.ntmps52 [(6,8,[],[],(lin [] [0,1,2,3,4,5,6,7]))] rfl rfl ?_;refine yr 0 rfl trivial fun hlen=>?_
 simp only [List.length_map] at hlen
 (have hWf:=f0;repeat' (first|refine zS ?_|refine zI ?_ ?_|exact zF0|refine zD fun hb=>?_|exact zC|refine zT ?_|fail))
 refine xd (fun n σ=>∃ k:Nat,k<=xs.length/\n=xs.length - k/\σ.t 0=.sl 3 (xs.map MType.enc)/\σ.t 1=.sl 3 (xs.map MType.enc)/\σ.t 5=.s (.int .i64 k)) xs.length ⟨0,by omega,by omega,?_⟩ ?_
 ·simp only [go_sem,simprocAttr,Int.natCast_zero]
 ·rintro n σ ⟨k,hk,rfl,h0,h1,h5⟩ K' hK
  by_cases hlt:k<xs.length
  ·have hx:=xb MType.enc xs k hlt
   have he:=MType.enc_eq xs[k]
   (have hWf:=w5 @h0 @h1 @h5 @hx @he;repeat' (first|refine zS ?_|refine zI ?_ ?_|refine zK (c_eqType xs[k]) ?_|exact zF0|refine zD fun hb=>?_|exact zC|refine zT ?_|fail))
   all_goals
    refine hK (xs.length - (k+1)) _ (by omega) ⟨k+1,by omega,rfl,?_⟩
    simp only [go_sem,simprocAttr,h0,h1,h5,Int.natCast_succ]
  ·(have hWf:=w3 @h0 @h1 @h5;repeat' (first|refine zS ?_|refine zI ?_ ?_|exact zF0|refine zD fun hb=>?_|exact zC|refine zT ?_|fail))
theorem WZ(xs:List MType)(hs:smS MType.sm xs)(k:Int)(h0:0<=k)(hk:k+cnts MType.cnt xs<=4611686018427387904):FT 55 [.osl 137 3 (xs.map MType.own),.s (.int .i64 k)] (fun r o=>r=.s (.int .i64 (k+cnts MType.cnt xs))/\o=[.osl 137 3 ((marks MType.cnt MType.mark k xs).map MType.own),.un]):=by
 refine FI PM Tryz.func55 Tryz.ntmps55 [] rfl rfl ?_
 (have hWf:=f0;repeat' (first|refine zS ?_|refine zI ?_ ?_|exact zF0|refine zD fun hb=>?_|exact zC|refine zT ?_|fail))
 refine Xw (fun n σ=>∃ i:Nat,i<=xs.length/\n=xs.length - i/\σ.t 0=.bs 900000 3 xs.length/\σ.t 1=.s (.int .i64 (k+cnts MType.cnt (xs.take i)))/\σ.t 5=.s (.int .i64 i)/\σ.b 900000=some (.arr 137 3 ((stM MType.cnt MType.mark k xs i).map MType.own))) xs.length ⟨0,by omega,by omega,?_⟩ ?_
 ·simp only [go_sem,simprocAttr,Int.natCast_zero,ux,List.take_zero,cnts,Int.add_zero]
 ·rintro n σ ⟨i,hi,rfl,h0,h1,h5,h9⟩ K' hK
  by_cases hlt:i<xs.length
  ·have hc:=zt (c:=MType.cnt) hlt
   have hc':=uE (c:=MType.cnt) xs (i+1);have hx:=vA (c:=MType.cnt) (m:=MType.mark) k hlt MType.own;have hpl:=vB (c:=MType.cnt) (m:=MType.mark) k (Nat.le_of_lt hlt);have hst:=uP (c:=MType.cnt) (m:=MType.mark) k hlt MType.own;have hgs:∀ r,(((stM MType.cnt MType.mark k xs i).map MType.own).set i r).getD i []=r:=fun r=>by rw [List.getD_eq_getElem?_getD,List.getElem?_set_self (by rw [List.length_map,hpl];exact hlt)];rfl
   simp only [MType.own_eq,MType.mark] at hx hst
   simp only [MType.cnt] at hc
   have hrow:((stM MType.cnt MType.mark k xs i).map MType.own)[i]?=some (MType.own xs[i]):=by
    have h1:i<((stM MType.cnt MType.mark k xs i).map MType.own).length:=by simpa [hpl] using hlt
    rw [List.getElem?_eq_getElem h1,<- ym (List.getElem?_eq_getElem h1),hx]
    rfl
   have hsx:=hs.2 _ (List.getElem_mem hlt);have hl:=hs.1
   (refine xj ?_;simp only [go_sem,simprocAttr,h0,h1,h5];(have hWf:=w3 @h0 @h1 @h5;repeat' (first|refine zY ?_|refine zI ?_ ?_|exact zF1|refine zD fun hb=>?_|exact zC|refine zT ?_|fail)))
   (refine xj ?_;simp only [go_sem,simprocAttr,h0,h1,h5];(have hWf:=w3 @h0 @h1 @h5;repeat' (first|refine zY ?_|refine zI ?_ ?_|exact zF1|refine zD fun hb=>?_|exact zC|refine zT ?_|fail)))
   (refine xj ?_;simp only [go_sem,simprocAttr,h0,h1,h5];(have hWf:=w3 @h0 @h1 @h5;repeat' (first|refine zY ?_|refine zI ?_ ?_|exact zF1|refine zD fun hb=>?_|exact zC|refine zT ?_|fail)))
   (refine xj ?_;simp only [go_sem,simprocAttr,h0,h1,h5,h9,hx,hpl,hgs,List.set_set,List.length_set,MType.own_eq];(have hWf:=w8 @h0 @h1 @h5 @h9 @hx @hpl @hgs @MType.own_eq;repeat' (first|refine zY ?_|refine zI ?_ ?_|((with_reducible apply xc);refine zG (yN (k+(cnts MType.cnt (xs.take i):Nat)) (by omega)) ?_)|refine zU (yN (k+(cnts MType.cnt (xs.take i):Nat)) (by omega)) ?_|exact zF1|refine zD fun hb=>?_|exact zC|refine zT ?_|fail)))
   (refine xj ?_;simp only [go_sem,simprocAttr,h0,h1,h5,h9,hx,hpl,hgs,List.set_set,List.length_set,MType.own_eq];(have hWf:=w8 @h0 @h1 @h5 @h9 @hx @hpl @hgs @MType.own_eq;repeat' (first|refine zY ?_|refine zI ?_ ?_|exact zF1|refine zD fun hb=>?_|exact zC|refine zT ?_|fail)))
   (refine xj ?_;simp only [go_sem,simprocAttr,h0,h1,h5,h9,hx,hpl,hgs,List.set_set,List.length_set,MType.own_eq];(have hWf:=w8 @h0 @h1 @h5 @h9 @hx @hpl @hgs @MType.own_eq;repeat' (first|refine zY ?_|refine zI ?_ ?_|exact zF1|refine zD fun hb=>?_|exact zC|refine zT ?_|fail)))
   (refine xj ?_;simp only [go_sem,simprocAttr,h0,h1,h5,h9,hx,hpl,hgs,List.set_set,List.length_set,MType.own_eq];(have hWf:=w8 @h0 @h1 @h5 @h9 @hx @hpl @hgs @MType.own_eq;repeat' (first|refine zY ?_|refine zI ?_ ?_|exact zF1|refine zD fun hb=>?_|exact zC|refine zT ?_|fail)))
   refine Xp 900000 i 2 1000000002 (e:=137) (k:=3) (rows:=((stM MType.cnt MType.mark k xs i).map MType.own).set i [.s (.string (mkB (k+(cnts MType.cnt (xs.take i):Nat)))),.s (.int .i64 ((k+(cnts MType.cnt (xs.take i):Nat))+1)),.osl 141 3 (xs[i].cons.map MCon.own)]) (row:=[.s (.string (mkB (k+(cnts MType.cnt (xs.take i):Nat)))),.s (.int .i64 ((k+(cnts MType.cnt (xs.take i):Nat))+1)),.osl 141 3 (xs[i].cons.map MCon.own)]) (d:=.osl 141 3 (xs[i].cons.map MCon.own)) (by simp only [go_sem,simprocAttr,h9]) (List.getElem?_set_self (by rw [List.length_map,hpl];exact hlt)) rfl rfl (by decide) (by decide) ?_
   (have hWf:=w9 @h0 @h1 @h5 @h9 @hx @hpl @hgs @MType.own_eq @xk;repeat' (first|refine zS ?_|refine zI ?_ ?_|((with_reducible apply xc);refine xh (Ve xs[i].cons (hsx.2) _ (by omega) (by omega)) ?_;rintro _ _ ⟨rfl,rfl⟩)|((with_reducible apply xf);refine xe (Ve xs[i].cons (hsx.2) _ (by omega) (by omega)) ?_)|exact zF0|refine zD fun hb=>?_|exact zC|refine zT ?_|fail))
   refine hK (xs.length - (i+1)) _ _ (by omega) (vo 900000 1000000002 (e:=137) (k:=3) (i:=i) (j:=2) (rows:=((stM MType.cnt MType.mark k xs i).map MType.own).set i [.s (.string (mkB (k+(cnts MType.cnt (xs.take i):Nat)))),.s (.int .i64 ((k+(cnts MType.cnt (xs.take i):Nat))+1)),.osl 141 3 (xs[i].cons.map MCon.own)]) (r:=.bs 1000000002 3 xs[i].cons.length) (d:=.osl 141 3 ((marks MCon.cnt MCon.mark (((k+(cnts MType.cnt (xs.take i):Nat))+1)+1) xs[i].cons).map MCon.own)) (ob:=3=3/\xs[i].cons.length<=((marks MCon.cnt MCon.mark (((k+(cnts MType.cnt (xs.take i):Nat))+1)+1) xs[i].cons).map MCon.own).length) ?_ ?_ ⟨rfl,by rw [List.length_map,xk];exact Nat.le_refl _⟩ rfl (by decide)) ⟨i+1,by omega,rfl,?_⟩
   ·simp only [go_sem,simprocAttr,h9,hgs]
   ·simp only [go_sem,simprocAttr,xk]
   ·simp only [go_sem,simprocAttr,h0,h1,h5,h9,Int.natCast_succ,hx,hst,hgs,List.set_set,List.set_cons_succ,List.set_cons_zero]
    exact xq (by rw [hc];push_cast;omega)
  ·obtain rfl:i=xs.length:=by omega
   rw [vz] at h9
   rw [List.take_length] at h1
   (have hWf:=w5 @h0 @h1 @h5 @h9 @xk;repeat' (first|refine zS ?_|refine zI ?_ ?_|exact zF0|refine zD fun hb=>?_|exact zC|refine zT ?_|fail))
end
section
open Go.RowKit Go.ChangeShapes Go.WideShapes
structure MProgram where
 types:List MType
 nodes:List MNode
def MProgram.enc(x:MProgram):List D:=[.sl 3 (x.types.map MType.enc),.sl 6 (x.nodes.map MNode.enc)]
theorem MProgram.enc_eq(x:MProgram):x.enc=[.sl 3 (x.types.map MType.enc),.sl 6 (x.nodes.map MNode.enc)]:=rfl
def MProgram.own(x:MProgram):List D:=[.osl 137 3 (x.types.map MType.own),.osl 163 6 (x.nodes.map MNode.own)]
theorem MProgram.own_eq(x:MProgram):x.own=[.osl 137 3 (x.types.map MType.own),.osl 163 6 (x.nodes.map MNode.own)]:=rfl
def MProgram.ok(x:MProgram):Prop:=(∀ y∈x.types,y.ok)/\(∀ y∈x.nodes,y.ok)
def MProgram.sm(x:MProgram):Prop:=smS MType.sm x.types/\smS MNode.sm x.nodes
def MProgram.cnt(x:MProgram):Nat:=cnts MType.cnt x.types+cnts MNode.cnt x.nodes
def MProgram.mark(k:Int)(x:MProgram):MProgram:=⟨marks MType.cnt MType.mark k x.types,marks MNode.cnt MNode.mark (k+(cnts MType.cnt x.types:Nat)) x.nodes⟩
theorem MProgram.cnt_eq(x:MProgram):x.cnt=cnts MType.cnt x.types+cnts MNode.cnt x.nodes:=rfl
theorem MProgram.mark_eq(k:Int)(x:MProgram):MProgram.mark k x=⟨marks MType.cnt MType.mark k x.types,marks MNode.cnt MNode.mark (k+(cnts MType.cnt x.types:Nat)) x.nodes⟩:=rfl
theorem W0(x:MProgram)(hs:x.sm):FT 11 [.ag x.enc] (fun r _=>r=.ag x.own):=by
 refine FI PM Tryz.func11 Tryz.ntmps11 [] rfl rfl ?_
 (have hWf:=w2 @MProgram.enc_eq @MProgram.own_eq;repeat' (first|refine zS ?_|refine zI ?_ ?_|refine zK (c_toTypeS x.types (hs.1)) ?_|refine zK (c_toNodeS x.nodes (hs.2)) ?_|exact zF0|refine zD fun hb=>?_|exact zC|refine zT ?_|fail))
theorem WS(x:MProgram):FT 15 [.ag x.enc,.ag x.enc] (fun r _=>r=.s (.bool true)):=by
 refine FI PM Tryz.func15 Tryz.ntmps15 [] rfl rfl ?_
 (have hWf:=w1 @MProgram.enc_eq;repeat' (first|refine zS ?_|refine zI ?_ ?_|refine zK (c_eqTypeS x.types) ?_|refine zK (c_eqNodeS x.nodes) ?_|exact zF0|refine zD fun hb=>?_|exact zC|refine zT ?_|fail))
theorem xaz(x:MProgram)(hs:x.sm)(k:Int)(h0:0<=k)(hk:k+x.cnt<=4611686018427387904):FT 17 [.ag x.own,.s (.int .i64 k)] (fun r o=>r=.s (.int .i64 (k+x.cnt))/\o=[.ag (MProgram.mark k x).own,.un]):=by
 simp only [MProgram.cnt] at hk
 refine FI PM Tryz.func17 Tryz.ntmps17 [] rfl rfl ?_
 (have hWf:=w4 @MProgram.own_eq @xk @MProgram.cnt_eq @MProgram.mark_eq;repeat' (first|refine zS ?_|refine zI ?_ ?_|((with_reducible apply xc);refine xh (WZ x.types (hs.1) _ (by omega) (by omega)) ?_;rintro _ _ ⟨rfl,rfl⟩)|((with_reducible apply xf);refine xe (WZ x.types (hs.1) _ (by omega) (by omega)) ?_)|((with_reducible apply xc);refine xh (WW x.nodes (hs.2) _ (by omega) (by omega)) ?_;rintro _ _ ⟨rfl,rfl⟩)|((with_reducible apply xf);refine xe (WW x.nodes (hs.2) _ (by omega) (by omega)) ?_)|exact zF0|refine zD fun hb=>?_|exact zC|refine zT ?_|fail))
 all_goals (first|rfl|exact xq (by push_cast;omega)|exact ⟨xq (by push_cast;omega),rfl⟩|skip)
end
section
def arI(k:Int):Int:=
 if k=1\/k=2\/k=3\/k=12 then 0 else if k=5\/k=14\/k=16\/k=17 then 1
 else if k=6\/k=7\/k=8\/k=10\/k=11\/k=15\/k=18\/k=19 then 2 else if k=9 then 3 else -1
def kidK(nodes:List MNode)(l:List Int)(kd:Int):Bool:=match l with
 | k::_=>decide (0<=k)&&(match nodes[k.toNat]? with|some x=>x.kind==kd|none=>false)
 | []=>false
theorem Wt{nodes:List MNode}{l:List Int}(h:0<l.length){k:Nat}(hk:k<nodes.length)(e:l[0]=(k:Int))(kd:Int):kidK nodes l kd=(nodes[k].kind==kd):=by
 match l,h with
 | z::r,_=>
  have hz:z=(k:Int):=e;subst hz;simp only [kidK,Int.toNat_natCast,List.getElem?_eq_getElem hk];rw [decide_eq_true (by omega)];rfl
def xQ(nodes:List MNode)(n:MNode)(nb:Bool):Bool:=
 if n.kind=1 then decide (0<=n.n)&&decide (n.n<=4611686018427387903)&&n.s.toList.isEmpty
 else if n.kind=2 then true
 else if n.kind=3\/n.kind=5\/n.kind=7\/n.kind=15 then nb
 else if n.kind=8 then nb&&kidK nodes n.kids 5
 else if n.kind=10 then Zc n.s
 else if n.kind=4 then zW n.s n.kids.length (decide (n.kids.length=1)&&kidK nodes n.kids 11)
 else if n.kind=13 then n.s.toList.isEmpty&&decide (1<=n.pats.length)&&decide (n.kids.length=n.pats.length+1)
 else decide (1<=n.kind)&&decide (n.kind<=19)&&n.s.toList.isEmpty
def yj(nodes:List MNode)(n:MNode)(nb:Bool):Bool:=
 decide (0<=n.at_)&&(decide (arI n.kind<0)||decide ((n.kids.length:Int)=arI n.kind))&&(decide (n.kind=13)||decide (n.pats.length=0))&&(decide (n.kind=1)||decide (n.kind=3)||decide (n.n=0))&&xQ nodes n nb
def yd(n:MNode):Bool:=yn n.s&&decide (n.n=0)
def inB(nodes:List MNode)(l:List Int):Bool:=l.all fun k=>decide (0<=k)&&decide (k<(nodes.length:Int))
def x4(nodes:List MNode)(n:MNode):Bool:=inB nodes n.kids&&yj nodes n (yd n)&&n.pats.all fun q=>patM q.nodes
def ye(params:Int)(c:MCon):Bool:=conM c.name.data.toList&&(if c.has=true then wc c.arg&&c.arg.all (fun x=>!(x.name.toList.isEmpty&&decide (params<=x.v))) else decide (c.arg.length=0))
def yI(t:MType):Bool:=yn t.name&&decide (0<=t.params)&&decide (t.params<=2)&&decide (1<=t.cons.length)&&decide (t.cons.length<=8)&&t.cons.all (ye t.params)
abbrev xU(nodes:List MNode):List (List Int):=nodes.map fun n=>n.kids
def yq(p:MProgram):Bool:=decide (1<=p.nodes.length)&&decide (p.nodes.length<=600)&&decide (p.types.length<=8)&&p.types.all yI&&p.nodes.all (x4 p.nodes)&&xZ (xU p.nodes)
end
section
open Go.RowKit Go.ChangeShapes Go.WideShapes
def RsT(left:Int)(n:Nat)(r:D):Prop:=∃ z:Int,r=.s (.int .i64 z) /\ -1<=z/\z<=left/\(0<=z->z+n<=left)
theorem uu{α:Type}{c t:α->Nat}(h:∀ x,c x<=6+6*t x):∀ l:List α,cnts c l<=6*(l.length+cnts t l)
 | []=>by simp [cnts]
 | x::l=>by have:=h x;have:=uu h l;simp only [cnts,List.length_cons];omega
theorem wD{α:Type}{t:α->Nat}{l:List α}{x:α}(h:x∈l):t x<=cnts t l:=by
 induction l with
 | nil=>cases h
 | cons y l ih=>
  rw [cnts];rcases List.mem_cons.1 h with rfl|h
  ·omega
  ·have:=ih h;omega
theorem zj{α:Type}{c:α->Nat}{xs:List α}{i:Nat}(h:i<xs.length):cnts c (xs.take (i+1))=cnts c (xs.take i)+c xs[i]:=zt h
theorem YT(xs:List Int)(left:Int)(h0:0<=left)(h1:left<=1048576):FT 123 [xV xs,.s (.int .i64 left)] (fun r _=>RsT left (xs.length+cnts (fun _:Int=>0) xs) r):=by
 have hz:cnts (fun _:Int=>0) xs=0:=by induction xs with|nil=>rfl|cons _ l ih=>simp [cnts,ih]
 rw [hz];refine FI PM Tryz.func123 Tryz.ntmps123 [] rfl rfl ?_;refine yr 0 rfl trivial fun hlen=>?_
 simp only [List.length_map] at hlen
 (have hWf:=f0;repeat' (first|refine zS ?_|refine zI ?_ ?_|exact zF0|refine zD fun hb=>?_|exact zC|refine zT ?_|fail))
 all_goals exact ⟨_,rfl,by omega,by omega,by omega⟩
def TyI.tot(x:TyI):Nat:=x.name.size
theorem TyI.tot_eq(x:TyI):x.tot=x.name.size:=rfl
theorem TyI.sm_of{x:TyI}(h:x.tot<=1048576):x.sm:=by
 rw [TyI.tot_eq] at h
 exact (show x.name.size<=1048576 by omega)
theorem TyI.cnt_le(x:TyI):x.cnt<=6+6*x.tot:=by
 rw [TyI.tot_eq,TyI.cnt_eq];omega
theorem Vl(x:TyI)(ho:x.ok)(left:Int)(h0:0<=left)(h1:left<=1048576):FT 257 [.ag x.enc,.s (.int .i64 left)] (fun r _=>RsT left x.tot r):=by
 have hz1:=ho.2.1;unfold maxLen at hz1
 rw [TyI.tot_eq];refine FI PM Tryz.func257 Tryz.ntmps257 [] rfl rfl ?_
 (have hWf:=w1 @TyI.enc_eq;repeat' (first|refine zS ?_|refine zI ?_ ?_|exact zF0|refine zD fun hb=>?_|exact zC|refine zT ?_|fail))
 all_goals first|exact ⟨_,rfl,by omega,by omega,by omega⟩|exact ⟨_,rfl,by omega,by omega,fun hq=>by  omega⟩
theorem W4(xs:List TyI)(ho:∀ x∈xs,x.ok)(left:Int)(h0:0<=left)(h1:left<=1048576):FT 242 [.sl 3 (xs.map TyI.enc),.s (.int .i64 left)] (fun r _=>RsT left (xs.length+cnts TyI.tot xs) r):=by
 refine FI PM Tryz.func242 Tryz.ntmps242 [] rfl rfl ?_;refine yr 0 rfl trivial fun hlen=>?_
 simp only [List.length_map] at hlen
 by_cases hll:left<xs.length
 ·(have hWf:=f0;repeat' (first|refine zS ?_|refine zI ?_ ?_|exact zF0|refine zD fun hb=>?_|exact zC|refine zT ?_|fail))
  all_goals exact ⟨_,rfl,by omega,by omega,by omega⟩
 ·(have hWf:=f0;repeat' (first|refine zS ?_|refine zI ?_ ?_|exact zF0|refine zD fun hb=>?_|exact zC|refine zT ?_|fail))
  refine xd (fun n σ=>∃ (k:Nat) (l:Int),k<=xs.length/\n=xs.length - k/\σ.t 0=.sl 3 (xs.map TyI.enc)/\σ.t 1=.s (.int .i64 l)/\σ.t 5=.s (.int .i64 k)/\0<=l/\l+xs.length+cnts TyI.tot (xs.take k)<=left) xs.length ⟨0,left - xs.length,by omega,by omega,?_⟩ ?_
  ·simp only [go_sem,simprocAttr,Int.natCast_zero,List.take_zero,cnts]
   all_goals first|omega|exact ⟨by omega,by omega⟩|exact ⟨by omega,by simp⟩
  ·rintro n σ ⟨k,l,hk,rfl,s0,s1,s5,hl0,hl1⟩ K' hK
   by_cases hlt:k<xs.length
   ·have hx:=xb TyI.enc xs k hlt
    have he:=TyI.enc_eq xs[k];have hts:=zj (c:=TyI.tot) hlt
    (have hWf:=w5 @s0 @s1 @s5 @hx @he;repeat' (first|refine zS ?_|refine zI ?_ ?_|((with_reducible apply xc);refine xh (Vl xs[k] (ho _ (List.getElem_mem hlt)) l hl0 (by omega)) ?_;rintro _ _ ⟨z,rfl,za,zb,zc⟩)|((with_reducible apply xf);refine xe (Vl xs[k] (ho _ (List.getElem_mem hlt)) l hl0 (by omega)) ?_)|exact zF0|refine zD fun hb=>?_|exact zC|refine zT ?_|fail))
    ·exact ⟨_,rfl,by omega,by omega,by omega⟩
    ·refine hK (xs.length - (k+1)) _ (by omega) ⟨k+1,z,by omega,rfl,?_⟩
     simp only [go_sem,simprocAttr,s0,s1,s5,Int.natCast_succ];have:=zc (by omega)
     exact ⟨by omega,by omega⟩
   ·obtain rfl:k=xs.length:=by omega
    rw [List.take_length] at hl1
    (have hWf:=w3 @s0 @s1 @s5;repeat' (first|refine zS ?_|refine zI ?_ ?_|exact zF0|refine zD fun hb=>?_|exact zC|refine zT ?_|fail))
    exact ⟨_,rfl,by omega,by omega,fun _=>by omega⟩
def MTy.tot(x:MTy):Nat:=(x.items.length+cnts TyI.tot x.items)
theorem MTy.tot_eq(x:MTy):x.tot=(x.items.length+cnts TyI.tot x.items):=rfl
theorem d_szTy(x:MTy)(ho:x.ok)(left:Int)(h0:0<=left)(h1:left<=1048576):FT 220 [.ag x.enc,.s (.int .i64 left)] (fun r _=>RsT left x.tot r):=by
 rw [MTy.tot_eq];refine FI PM Tryz.func220 Tryz.ntmps220 [] rfl rfl ?_
 (have hWf:=w1 @MTy.enc_eq;repeat' (first|refine zS ?_|refine zI ?_ ?_|((with_reducible apply xc);refine xh (W4 x.items (ho) _ (by omega) (by omega)) ?_;rintro _ _ ⟨z0,rfl,z0a,z0b,z0c⟩)|((with_reducible apply xf);refine xe (W4 x.items (ho) _ (by omega) (by omega)) ?_)|exact zF0|refine zD fun hb=>?_|exact zC|refine zT ?_|fail))
 all_goals first|exact ⟨_,rfl,by omega,by omega,by omega⟩|exact ⟨_,rfl,by omega,by omega,fun hq=>by have:=z0c (by omega);  omega⟩
def DPNode.tot(x:DPNode):Nat:=x.s.size+(x.kids.length+cnts (fun _:Int=>0) x.kids)
theorem DPNode.tot_eq(x:DPNode):x.tot=x.s.size+(x.kids.length+cnts (fun _:Int=>0) x.kids):=rfl
theorem DPNode.sm_of{x:DPNode}(h:x.tot<=1048576):x.sm:=by
 rw [DPNode.tot_eq] at h
 exact ⟨(show x.s.size<=1048576 by omega),⟨by omega,fun _ _=>trivial⟩⟩
theorem DPNode.cnt_le(x:DPNode):x.cnt<=6+6*x.tot:=by
 rw [DPNode.tot_eq,DPNode.cnt_eq];have hkids:cnts (fun _:Int=>1) x.kids=x.kids.length:=by rw [Xe (n:=1) (fun _=>rfl)];omega
 omega
theorem QG(x:DPNode)(ho:x.ok)(left:Int)(h0:0<=left)(h1:left<=1048576):FT 124 [.ag x.enc,.s (.int .i64 left)] (fun r _=>RsT left x.tot r):=by
 have hz2:=ho.2.2.1;unfold maxLen at hz2
 rw [DPNode.tot_eq];refine FI PM Tryz.func124 Tryz.ntmps124 [] rfl rfl ?_
 (have hWf:=w1 @DPNode.enc_eq;repeat' (first|refine zS ?_|refine zI ?_ ?_|((with_reducible apply xc);refine xh (YT x.kids _ (by omega) (by omega)) ?_;rintro _ _ ⟨z0,rfl,z0a,z0b,z0c⟩)|((with_reducible apply xf);refine xe (YT x.kids _ (by omega) (by omega)) ?_)|exact zF0|refine zD fun hb=>?_|exact zC|refine zT ?_|fail))
 all_goals first|exact ⟨_,rfl,by omega,by omega,by omega⟩|exact ⟨_,rfl,by omega,by omega,fun hq=>by have:=z0c (by omega);  omega⟩
theorem Vk(xs:List DPNode)(ho:∀ x∈xs,x.ok)(left:Int)(h0:0<=left)(h1:left<=1048576):FT 69 [.sl 4 (xs.map DPNode.enc),.s (.int .i64 left)] (fun r _=>RsT left (xs.length+cnts DPNode.tot xs) r):=by
 refine FI PM Tryz.func69 Tryz.ntmps69 [] rfl rfl ?_;refine yr 0 rfl trivial fun hlen=>?_
 simp only [List.length_map] at hlen
 by_cases hll:left<xs.length
 ·(have hWf:=f0;repeat' (first|refine zS ?_|refine zI ?_ ?_|exact zF0|refine zD fun hb=>?_|exact zC|refine zT ?_|fail))
  all_goals exact ⟨_,rfl,by omega,by omega,by omega⟩
 ·(have hWf:=f0;repeat' (first|refine zS ?_|refine zI ?_ ?_|exact zF0|refine zD fun hb=>?_|exact zC|refine zT ?_|fail))
  refine xd (fun n σ=>∃ (k:Nat) (l:Int),k<=xs.length/\n=xs.length - k/\σ.t 0=.sl 4 (xs.map DPNode.enc)/\σ.t 1=.s (.int .i64 l)/\σ.t 5=.s (.int .i64 k)/\0<=l/\l+xs.length+cnts DPNode.tot (xs.take k)<=left) xs.length ⟨0,left - xs.length,by omega,by omega,?_⟩ ?_
  ·simp only [go_sem,simprocAttr,Int.natCast_zero,List.take_zero,cnts]
   all_goals first|omega|exact ⟨by omega,by omega⟩|exact ⟨by omega,by simp⟩
  ·rintro n σ ⟨k,l,hk,rfl,s0,s1,s5,hl0,hl1⟩ K' hK
   by_cases hlt:k<xs.length
   ·have hx:=xb DPNode.enc xs k hlt
    have he:=DPNode.enc_eq xs[k];have hts:=zj (c:=DPNode.tot) hlt
    (have hWf:=w5 @s0 @s1 @s5 @hx @he;repeat' (first|refine zS ?_|refine zI ?_ ?_|((with_reducible apply xc);refine xh (QG xs[k] (ho _ (List.getElem_mem hlt)) l hl0 (by omega)) ?_;rintro _ _ ⟨z,rfl,za,zb,zc⟩)|((with_reducible apply xf);refine xe (QG xs[k] (ho _ (List.getElem_mem hlt)) l hl0 (by omega)) ?_)|exact zF0|refine zD fun hb=>?_|exact zC|refine zT ?_|fail))
    ·exact ⟨_,rfl,by omega,by omega,by omega⟩
    ·refine hK (xs.length - (k+1)) _ (by omega) ⟨k+1,z,by omega,rfl,?_⟩
     simp only [go_sem,simprocAttr,s0,s1,s5,Int.natCast_succ];have:=zc (by omega)
     exact ⟨by omega,by omega⟩
   ·obtain rfl:k=xs.length:=by omega
    rw [List.take_length] at hl1
    (have hWf:=w3 @s0 @s1 @s5;repeat' (first|refine zS ?_|refine zI ?_ ?_|exact zF0|refine zD fun hb=>?_|exact zC|refine zT ?_|fail))
    exact ⟨_,rfl,by omega,by omega,fun _=>by omega⟩
def MPat.tot(x:MPat):Nat:=(x.nodes.length+cnts DPNode.tot x.nodes)
theorem MPat.tot_eq(x:MPat):x.tot=(x.nodes.length+cnts DPNode.tot x.nodes):=rfl
theorem MPat.sm_of{x:MPat}(h:x.tot<=1048576):x.sm:=by
 rw [MPat.tot_eq] at h
 exact ⟨by omega,fun y hy=>DPNode.sm_of (by have:=wD (t:=DPNode.tot) hy;omega)⟩
theorem MPat.cnt_le(x:MPat):x.cnt<=6+6*x.tot:=by
 rw [MPat.tot_eq,MPat.cnt_eq];have hnodes:=uu DPNode.cnt_le x.nodes;omega
theorem d_szPat(x:MPat)(ho:x.ok)(left:Int)(h0:0<=left)(h1:left<=1048576):FT 33 [.ag x.enc,.s (.int .i64 left)] (fun r _=>RsT left x.tot r):=by
 rw [MPat.tot_eq];refine FI PM Tryz.func33 Tryz.ntmps33 [] rfl rfl ?_
 (have hWf:=w1 @MPat.enc_eq;repeat' (first|refine zS ?_|refine zI ?_ ?_|((with_reducible apply xc);refine xh (Vk x.nodes (ho) _ (by omega) (by omega)) ?_;rintro _ _ ⟨z0,rfl,z0a,z0b,z0c⟩)|((with_reducible apply xf);refine xe (Vk x.nodes (ho) _ (by omega) (by omega)) ?_)|exact zF0|refine zD fun hb=>?_|exact zC|refine zT ?_|fail))
 all_goals first|exact ⟨_,rfl,by omega,by omega,by omega⟩|exact ⟨_,rfl,by omega,by omega,fun hq=>by have:=z0c (by omega);  omega⟩
theorem zJ(xs:List MPat)(ho:∀ x∈xs,x.ok)(left:Int)(h0:0<=left)(h1:left<=1048576):FT 9 [.sl 1 (xs.map MPat.enc),.s (.int .i64 left)] (fun r _=>RsT left (xs.length+cnts MPat.tot xs) r):=by
 refine FI PM Tryz.func9 Tryz.ntmps9 [] rfl rfl ?_;refine yr 0 rfl trivial fun hlen=>?_
 simp only [List.length_map] at hlen
 by_cases hll:left<xs.length
 ·(have hWf:=f0;repeat' (first|refine zS ?_|refine zI ?_ ?_|exact zF0|refine zD fun hb=>?_|exact zC|refine zT ?_|fail))
  all_goals exact ⟨_,rfl,by omega,by omega,by omega⟩
 ·(have hWf:=f0;repeat' (first|refine zS ?_|refine zI ?_ ?_|exact zF0|refine zD fun hb=>?_|exact zC|refine zT ?_|fail))
  refine xd (fun n σ=>∃ (k:Nat) (l:Int),k<=xs.length/\n=xs.length - k/\σ.t 0=.sl 1 (xs.map MPat.enc)/\σ.t 1=.s (.int .i64 l)/\σ.t 5=.s (.int .i64 k)/\0<=l/\l+xs.length+cnts MPat.tot (xs.take k)<=left) xs.length ⟨0,left - xs.length,by omega,by omega,?_⟩ ?_
  ·simp only [go_sem,simprocAttr,Int.natCast_zero,List.take_zero,cnts]
   all_goals first|omega|exact ⟨by omega,by omega⟩|exact ⟨by omega,by simp⟩
  ·rintro n σ ⟨k,l,hk,rfl,s0,s1,s5,hl0,hl1⟩ K' hK
   by_cases hlt:k<xs.length
   ·have hx:=xb MPat.enc xs k hlt
    have he:=MPat.enc_eq xs[k];have hts:=zj (c:=MPat.tot) hlt
    (have hWf:=w5 @s0 @s1 @s5 @hx @he;repeat' (first|refine zS ?_|refine zI ?_ ?_|((with_reducible apply xc);refine xh (d_szPat xs[k] (ho _ (List.getElem_mem hlt)) l hl0 (by omega)) ?_;rintro _ _ ⟨z,rfl,za,zb,zc⟩)|((with_reducible apply xf);refine xe (d_szPat xs[k] (ho _ (List.getElem_mem hlt)) l hl0 (by omega)) ?_)|exact zF0|refine zD fun hb=>?_|exact zC|refine zT ?_|fail))
    ·exact ⟨_,rfl,by omega,by omega,by omega⟩
    ·refine hK (xs.length - (k+1)) _ (by omega) ⟨k+1,z,by omega,rfl,?_⟩
     simp only [go_sem,simprocAttr,s0,s1,s5,Int.natCast_succ];have:=zc (by omega)
     exact ⟨by omega,by omega⟩
   ·obtain rfl:k=xs.length:=by omega
    rw [List.take_length] at hl1
    (have hWf:=w3 @s0 @s1 @s5;repeat' (first|refine zS ?_|refine zI ?_ ?_|exact zF0|refine zD fun hb=>?_|exact zC|refine zT ?_|fail))
    exact ⟨_,rfl,by omega,by omega,fun _=>by omega⟩
def MNode.tot(x:MNode):Nat:=x.s.size+(x.kids.length+cnts (fun _:Int=>0) x.kids)+(x.pats.length+cnts MPat.tot x.pats)
theorem MNode.tot_eq(x:MNode):x.tot=x.s.size+(x.kids.length+cnts (fun _:Int=>0) x.kids)+(x.pats.length+cnts MPat.tot x.pats):=rfl
theorem MNode.sm_of{x:MNode}(h:x.tot<=1048576):x.sm:=by
 rw [MNode.tot_eq] at h
 exact ⟨(show x.s.size<=1048576 by omega),⟨by omega,fun _ _=>trivial⟩,⟨by omega,fun y hy=>MPat.sm_of (by have:=wD (t:=MPat.tot) hy;omega)⟩⟩
theorem MNode.cnt_le(x:MNode):x.cnt<=6+6*x.tot:=by
 rw [MNode.tot_eq,MNode.cnt_eq];have hkids:cnts (fun _:Int=>1) x.kids=x.kids.length:=by rw [Xe (n:=1) (fun _=>rfl)];omega
 have hpats:=uu MPat.cnt_le x.pats;omega
theorem xba(x:MNode)(ho:x.ok)(left:Int)(h0:0<=left)(h1:left<=1048576):FT 68 [.ag x.enc,.s (.int .i64 left)] (fun r _=>RsT left x.tot r):=by
 have hz3:=ho.2.2.2.1;unfold maxLen at hz3
 rw [MNode.tot_eq];refine FI PM Tryz.func68 Tryz.ntmps68 [] rfl rfl ?_
 (have hWf:=w1 @MNode.enc_eq;repeat' (first|refine zS ?_|refine zI ?_ ?_|((with_reducible apply xc);refine xh (YT x.kids _ (by omega) (by omega)) ?_;rintro _ _ ⟨z0,rfl,z0a,z0b,z0c⟩)|((with_reducible apply xf);refine xe (YT x.kids _ (by omega) (by omega)) ?_)|((with_reducible apply xc);refine xh (zJ x.pats (ho.2.2.2.2.2) _ (by omega) (by omega)) ?_;rintro _ _ ⟨z1,rfl,z1a,z1b,z1c⟩)|((with_reducible apply xf);refine xe (zJ x.pats (ho.2.2.2.2.2) _ (by omega) (by omega)) ?_)|exact zF0|refine zD fun hb=>?_|exact zC|refine zT ?_|fail))
 all_goals first|exact ⟨_,rfl,by omega,by omega,by omega⟩|exact ⟨_,rfl,by omega,by omega,fun hq=>by have:=z0c (by omega);have:=z1c (by omega);  omega⟩
theorem QF(xs:List MNode)(ho:∀ x∈xs,x.ok)(left:Int)(h0:0<=left)(h1:left<=1048576):FT 32 [.sl 6 (xs.map MNode.enc),.s (.int .i64 left)] (fun r _=>RsT left (xs.length+cnts MNode.tot xs) r):=by
 refine FI PM Tryz.func32 Tryz.ntmps32 [] rfl rfl ?_;refine yr 0 rfl trivial fun hlen=>?_
 simp only [List.length_map] at hlen
 by_cases hll:left<xs.length
 ·(have hWf:=f0;repeat' (first|refine zS ?_|refine zI ?_ ?_|exact zF0|refine zD fun hb=>?_|exact zC|refine zT ?_|fail))
  all_goals exact ⟨_,rfl,by omega,by omega,by omega⟩
 ·(have hWf:=f0;repeat' (first|refine zS ?_|refine zI ?_ ?_|exact zF0|refine zD fun hb=>?_|exact zC|refine zT ?_|fail))
  refine xd (fun n σ=>∃ (k:Nat) (l:Int),k<=xs.length/\n=xs.length - k/\σ.t 0=.sl 6 (xs.map MNode.enc)/\σ.t 1=.s (.int .i64 l)/\σ.t 5=.s (.int .i64 k)/\0<=l/\l+xs.length+cnts MNode.tot (xs.take k)<=left) xs.length ⟨0,left - xs.length,by omega,by omega,?_⟩ ?_
  ·simp only [go_sem,simprocAttr,Int.natCast_zero,List.take_zero,cnts]
   all_goals first|omega|exact ⟨by omega,by omega⟩|exact ⟨by omega,by simp⟩
  ·rintro n σ ⟨k,l,hk,rfl,s0,s1,s5,hl0,hl1⟩ K' hK
   by_cases hlt:k<xs.length
   ·have hx:=xb MNode.enc xs k hlt
    have he:=MNode.enc_eq xs[k];have hts:=zj (c:=MNode.tot) hlt
    (have hWf:=w5 @s0 @s1 @s5 @hx @he;repeat' (first|refine zS ?_|refine zI ?_ ?_|((with_reducible apply xc);refine xh (xba xs[k] (ho _ (List.getElem_mem hlt)) l hl0 (by omega)) ?_;rintro _ _ ⟨z,rfl,za,zb,zc⟩)|((with_reducible apply xf);refine xe (xba xs[k] (ho _ (List.getElem_mem hlt)) l hl0 (by omega)) ?_)|exact zF0|refine zD fun hb=>?_|exact zC|refine zT ?_|fail))
    ·exact ⟨_,rfl,by omega,by omega,by omega⟩
    ·refine hK (xs.length - (k+1)) _ (by omega) ⟨k+1,z,by omega,rfl,?_⟩
     simp only [go_sem,simprocAttr,s0,s1,s5,Int.natCast_succ];have:=zc (by omega)
     exact ⟨by omega,by omega⟩
   ·obtain rfl:k=xs.length:=by omega
    rw [List.take_length] at hl1
    (have hWf:=w3 @s0 @s1 @s5;repeat' (first|refine zS ?_|refine zI ?_ ?_|exact zF0|refine zD fun hb=>?_|exact zC|refine zT ?_|fail))
    exact ⟨_,rfl,by omega,by omega,fun _=>by omega⟩
def MCon.tot(x:MCon):Nat:=x.name.size+(x.arg.length+cnts TyI.tot x.arg)
theorem MCon.tot_eq(x:MCon):x.tot=x.name.size+(x.arg.length+cnts TyI.tot x.arg):=rfl
theorem MCon.sm_of{x:MCon}(h:x.tot<=1048576):x.sm:=by
 rw [MCon.tot_eq] at h
 exact ⟨(show x.name.size<=1048576 by omega),⟨by omega,fun y hy=>TyI.sm_of (by have:=wD (t:=TyI.tot) hy;omega)⟩⟩
theorem MCon.cnt_le(x:MCon):x.cnt<=6+6*x.tot:=by
 rw [MCon.tot_eq,MCon.cnt_eq];have harg:=uu TyI.cnt_le x.arg;omega
theorem d_szCon(x:MCon)(ho:x.ok)(left:Int)(h0:0<=left)(h1:left<=1048576):FT 172 [.ag x.enc,.s (.int .i64 left)] (fun r _=>RsT left x.tot r):=by
 have hz0:=ho.1;unfold maxLen at hz0
 have ht_arg:(MTy.tot ⟨x.arg⟩)=x.arg.length+cnts TyI.tot x.arg:=rfl;rw [MCon.tot_eq];refine FI PM Tryz.func172 Tryz.ntmps172 [] rfl rfl ?_
 (have hWf:=w2 @MCon.enc_eq @MTy.enc_eq;repeat' (first|refine zS ?_|refine zI ?_ ?_|((with_reducible apply xc);refine xh (d_szTy ⟨x.arg⟩ (ho.2.2) _ (by omega) (by omega)) ?_;rintro _ _ ⟨z0,rfl,z0a,z0b,z0c⟩)|((with_reducible apply xf);refine xe (d_szTy ⟨x.arg⟩ (ho.2.2) _ (by omega) (by omega)) ?_)|exact zF0|refine zD fun hb=>?_|exact zC|refine zT ?_|fail))
 all_goals first|exact ⟨_,rfl,by omega,by omega,by omega⟩|exact ⟨_,rfl,by omega,by omega,fun hq=>by have:=z0c (by omega);  omega⟩
theorem xa9(xs:List MCon)(ho:∀ x∈xs,x.ok)(left:Int)(h0:0<=left)(h1:left<=1048576):FT 122 [.sl 3 (xs.map MCon.enc),.s (.int .i64 left)] (fun r _=>RsT left (xs.length+cnts MCon.tot xs) r):=by
 refine FI PM Tryz.func122 Tryz.ntmps122 [] rfl rfl ?_;refine yr 0 rfl trivial fun hlen=>?_
 simp only [List.length_map] at hlen
 by_cases hll:left<xs.length
 ·(have hWf:=f0;repeat' (first|refine zS ?_|refine zI ?_ ?_|exact zF0|refine zD fun hb=>?_|exact zC|refine zT ?_|fail))
  all_goals exact ⟨_,rfl,by omega,by omega,by omega⟩
 ·(have hWf:=f0;repeat' (first|refine zS ?_|refine zI ?_ ?_|exact zF0|refine zD fun hb=>?_|exact zC|refine zT ?_|fail))
  refine xd (fun n σ=>∃ (k:Nat) (l:Int),k<=xs.length/\n=xs.length - k/\σ.t 0=.sl 3 (xs.map MCon.enc)/\σ.t 1=.s (.int .i64 l)/\σ.t 5=.s (.int .i64 k)/\0<=l/\l+xs.length+cnts MCon.tot (xs.take k)<=left) xs.length ⟨0,left - xs.length,by omega,by omega,?_⟩ ?_
  ·simp only [go_sem,simprocAttr,Int.natCast_zero,List.take_zero,cnts]
   all_goals first|omega|exact ⟨by omega,by omega⟩|exact ⟨by omega,by simp⟩
  ·rintro n σ ⟨k,l,hk,rfl,s0,s1,s5,hl0,hl1⟩ K' hK
   by_cases hlt:k<xs.length
   ·have hx:=xb MCon.enc xs k hlt
    have he:=MCon.enc_eq xs[k];have hts:=zj (c:=MCon.tot) hlt
    (have hWf:=w5 @s0 @s1 @s5 @hx @he;repeat' (first|refine zS ?_|refine zI ?_ ?_|((with_reducible apply xc);refine xh (d_szCon xs[k] (ho _ (List.getElem_mem hlt)) l hl0 (by omega)) ?_;rintro _ _ ⟨z,rfl,za,zb,zc⟩)|((with_reducible apply xf);refine xe (d_szCon xs[k] (ho _ (List.getElem_mem hlt)) l hl0 (by omega)) ?_)|exact zF0|refine zD fun hb=>?_|exact zC|refine zT ?_|fail))
    ·exact ⟨_,rfl,by omega,by omega,by omega⟩
    ·refine hK (xs.length - (k+1)) _ (by omega) ⟨k+1,z,by omega,rfl,?_⟩
     simp only [go_sem,simprocAttr,s0,s1,s5,Int.natCast_succ];have:=zc (by omega)
     exact ⟨by omega,by omega⟩
   ·obtain rfl:k=xs.length:=by omega
    rw [List.take_length] at hl1
    (have hWf:=w3 @s0 @s1 @s5;repeat' (first|refine zS ?_|refine zI ?_ ?_|exact zF0|refine zD fun hb=>?_|exact zC|refine zT ?_|fail))
    exact ⟨_,rfl,by omega,by omega,fun _=>by omega⟩
def MType.tot(x:MType):Nat:=x.name.size+(x.cons.length+cnts MCon.tot x.cons)
theorem MType.tot_eq(x:MType):x.tot=x.name.size+(x.cons.length+cnts MCon.tot x.cons):=rfl
theorem MType.sm_of{x:MType}(h:x.tot<=1048576):x.sm:=by
 rw [MType.tot_eq] at h
 exact ⟨(show x.name.size<=1048576 by omega),⟨by omega,fun y hy=>MCon.sm_of (by have:=wD (t:=MCon.tot) hy;omega)⟩⟩
theorem MType.cnt_le(x:MType):x.cnt<=6+6*x.tot:=by
 rw [MType.tot_eq,MType.cnt_eq];have hcons:=uu MCon.cnt_le x.cons;omega
theorem xbb(x:MType)(ho:x.ok)(left:Int)(h0:0<=left)(h1:left<=1048576):FT 67 [.ag x.enc,.s (.int .i64 left)] (fun r _=>RsT left x.tot r):=by
 have hz0:=ho.1;unfold maxLen at hz0
 rw [MType.tot_eq];refine FI PM Tryz.func67 Tryz.ntmps67 [] rfl rfl ?_
 (have hWf:=w1 @MType.enc_eq;repeat' (first|refine zS ?_|refine zI ?_ ?_|((with_reducible apply xc);refine xh (xa9 x.cons (ho.2.2) _ (by omega) (by omega)) ?_;rintro _ _ ⟨z0,rfl,z0a,z0b,z0c⟩)|((with_reducible apply xf);refine xe (xa9 x.cons (ho.2.2) _ (by omega) (by omega)) ?_)|exact zF0|refine zD fun hb=>?_|exact zC|refine zT ?_|fail))
 all_goals first|exact ⟨_,rfl,by omega,by omega,by omega⟩|exact ⟨_,rfl,by omega,by omega,fun hq=>by have:=z0c (by omega);  omega⟩
theorem QH(xs:List MType)(ho:∀ x∈xs,x.ok)(left:Int)(h0:0<=left)(h1:left<=1048576):FT 31 [.sl 3 (xs.map MType.enc),.s (.int .i64 left)] (fun r _=>RsT left (xs.length+cnts MType.tot xs) r):=by
 refine FI PM Tryz.func31 Tryz.ntmps31 [] rfl rfl ?_;refine yr 0 rfl trivial fun hlen=>?_
 simp only [List.length_map] at hlen
 by_cases hll:left<xs.length
 ·(have hWf:=f0;repeat' (first|refine zS ?_|refine zI ?_ ?_|exact zF0|refine zD fun hb=>?_|exact zC|refine zT ?_|fail))
  all_goals exact ⟨_,rfl,by omega,by omega,by omega⟩
 ·(have hWf:=f0;repeat' (first|refine zS ?_|refine zI ?_ ?_|exact zF0|refine zD fun hb=>?_|exact zC|refine zT ?_|fail))
  refine xd (fun n σ=>∃ (k:Nat) (l:Int),k<=xs.length/\n=xs.length - k/\σ.t 0=.sl 3 (xs.map MType.enc)/\σ.t 1=.s (.int .i64 l)/\σ.t 5=.s (.int .i64 k)/\0<=l/\l+xs.length+cnts MType.tot (xs.take k)<=left) xs.length ⟨0,left - xs.length,by omega,by omega,?_⟩ ?_
  ·simp only [go_sem,simprocAttr,Int.natCast_zero,List.take_zero,cnts]
   all_goals first|omega|exact ⟨by omega,by omega⟩|exact ⟨by omega,by simp⟩
  ·rintro n σ ⟨k,l,hk,rfl,s0,s1,s5,hl0,hl1⟩ K' hK
   by_cases hlt:k<xs.length
   ·have hx:=xb MType.enc xs k hlt
    have he:=MType.enc_eq xs[k];have hts:=zj (c:=MType.tot) hlt
    (have hWf:=w5 @s0 @s1 @s5 @hx @he;repeat' (first|refine zS ?_|refine zI ?_ ?_|((with_reducible apply xc);refine xh (xbb xs[k] (ho _ (List.getElem_mem hlt)) l hl0 (by omega)) ?_;rintro _ _ ⟨z,rfl,za,zb,zc⟩)|((with_reducible apply xf);refine xe (xbb xs[k] (ho _ (List.getElem_mem hlt)) l hl0 (by omega)) ?_)|exact zF0|refine zD fun hb=>?_|exact zC|refine zT ?_|fail))
    ·exact ⟨_,rfl,by omega,by omega,by omega⟩
    ·refine hK (xs.length - (k+1)) _ (by omega) ⟨k+1,z,by omega,rfl,?_⟩
     simp only [go_sem,simprocAttr,s0,s1,s5,Int.natCast_succ];have:=zc (by omega)
     exact ⟨by omega,by omega⟩
   ·obtain rfl:k=xs.length:=by omega
    rw [List.take_length] at hl1
    (have hWf:=w3 @s0 @s1 @s5;repeat' (first|refine zS ?_|refine zI ?_ ?_|exact zF0|refine zD fun hb=>?_|exact zC|refine zT ?_|fail))
    exact ⟨_,rfl,by omega,by omega,fun _=>by omega⟩
def MProgram.tot(x:MProgram):Nat:=(x.types.length+cnts MType.tot x.types)+(x.nodes.length+cnts MNode.tot x.nodes)
theorem MProgram.tot_eq(x:MProgram):x.tot=(x.types.length+cnts MType.tot x.types)+(x.nodes.length+cnts MNode.tot x.nodes):=rfl
theorem MProgram.sm_of{x:MProgram}(h:x.tot<=1048576):x.sm:=by
 rw [MProgram.tot_eq] at h
 exact ⟨⟨by omega,fun y hy=>MType.sm_of (by have:=wD (t:=MType.tot) hy;omega)⟩,⟨by omega,fun y hy=>MNode.sm_of (by have:=wD (t:=MNode.tot) hy;omega)⟩⟩
theorem MProgram.cnt_le(x:MProgram):x.cnt<=6+6*x.tot:=by
 rw [MProgram.tot_eq,MProgram.cnt_eq];have htypes:=uu MType.cnt_le x.types;have hnodes:=uu MNode.cnt_le x.nodes;omega
theorem zf(x:MProgram)(ho:x.ok)(left:Int)(h0:0<=left)(h1:left<=1048576):FT 8 [.ag x.enc,.s (.int .i64 left)] (fun r _=>RsT left x.tot r):=by
 rw [MProgram.tot_eq];refine FI PM Tryz.func8 Tryz.ntmps8 [] rfl rfl ?_
 (have hWf:=w1 @MProgram.enc_eq;repeat' (first|refine zS ?_|refine zI ?_ ?_|((with_reducible apply xc);refine xh (QH x.types (ho.1) _ (by omega) (by omega)) ?_;rintro _ _ ⟨z0,rfl,z0a,z0b,z0c⟩)|((with_reducible apply xf);refine xe (QH x.types (ho.1) _ (by omega) (by omega)) ?_)|((with_reducible apply xc);refine xh (QF x.nodes (ho.2) _ (by omega) (by omega)) ?_;rintro _ _ ⟨z1,rfl,z1a,z1b,z1c⟩)|((with_reducible apply xf);refine xe (QF x.nodes (ho.2) _ (by omega) (by omega)) ?_)|exact zF0|refine zD fun hb=>?_|exact zC|refine zT ?_|fail))
 all_goals first|exact ⟨_,rfl,by omega,by omega,by omega⟩|exact ⟨_,rfl,by omega,by omega,fun hq=>by have:=z0c (by omega);have:=z1c (by omega);  omega⟩
end
section
open Go.RowKit
theorem node_kids(w:World)(h:Hp)(hs:Sub h w)(v:Value)(ks:List (List Int))(hv:KidsAt 6 4 h v ks)(hl:ks.length<=1000000000)(Bd Od:Nat)(hB:w.cell? ⟨Bd,Od+1,none⟩=some v)(i:Nat)(hi:i<ks.length) :
  Calls Tryz.prog 182 #[.int .i64 i,.pointer (some ⟨Bd,Od,none⟩)] w fun e w'=>KidQ h w ks[i] e w':=by
 have HV:=Lib.hid hv;obtain ⟨a,c,rfl,hc1,hc2,-⟩:=hv;unfold maxLen at hc2
 obtain ⟨b,off,rfl,hcell⟩:=HV.out.cell hi;obtain ⟨v1,hrel,hcs⟩:=hcell i hi;have c3:=hcs w hs;have HR:=Lib.hid hrel;clear hcell hcs hrel
 go_enter Tryz.func182,Tryz.ntmps182
 go_wp2_with fail
 go_ret
 exact ⟨_,rfl,HR.out,(by repeat (first|with_reducible exact Below.refl _ _|with_reducible assumption|with_reducible refine Below.setCell ?_ ?_ _|with_reducible refine Below.alloc ?_ ?_ _|with_reducible refine Below.drew ?_|(with_reducible apply wl;with_reducible assumption)|exact Nat.le_refl _|omega|(simp<;>omega)))⟩
theorem xcr(p:MProgram)(ho:∀ x∈p.nodes,x.ok)(hl:p.nodes.length<=1000000000)(hks:∀ x∈p.nodes,x.kids.length<=1000000000) :
  FT 95 [.s (.int .i64 p.nodes.length),.fn 182 [.pt p.enc]] (fun r _=>r=.s (.bool (xZ (p.nodes.map MNode.kids)))):=by
 have hlen:(p.nodes.map MNode.kids).length=p.nodes.length:=List.length_map _;have:=Qv 182 (ent_of Tryz.func182 rfl rfl) (p.nodes.map MNode.kids) p.enc (by rw [hlen];exact hl) (fun k h=>by obtain ⟨x,hx,rfl⟩:=List.mem_map.1 h;exact hks x hx) fun w S up v hv w1 hb m hm=>by
  cases hv with
  | @pt _ _ b off ws hc hr=>
   have c1:=(hc 1 _ rfl).2;have hk:=Q0 (enc:=MNode.enc) (kids:=MNode.kids) (k:=6) (c:=4) (by decide) (fun _ _=>rfl) (fun _ _=>rfl) (hr 1 _ rfl) (fun x hx=>(ho x hx).2.2.2.2.1)
   exact node_kids w1 (hp w) ((Sub.self w).below hb) _ _ hk (by rw [hlen];exact hl) b off (wC hb c1) m hm
 rw [hlen] at this
 exact this
theorem VI{k:Int}(h:k<1\/19<k):arI k = -1:=by
 unfold arI;split
 ·omega
 split
 ·omega
 split
 ·omega
 split
 ·omega
 rfl
theorem x6(k:Int):FT 224 [.s (.int .i64 k)] (fun r _=>r=.s (.int .i64 (arI k))):=by
 by_cases hkd:k<1\/19<k
 ·rw [VI hkd]
  have e1:(k==1)=false:=by simp only [beq_eq_false_iff_ne,ne_eq];omega
  have e2:(k==2)=false:=by simp only [beq_eq_false_iff_ne,ne_eq];omega
  have e3:(k==3)=false:=by simp only [beq_eq_false_iff_ne,ne_eq];omega
  have e4:(k==4)=false:=by simp only [beq_eq_false_iff_ne,ne_eq];omega
  have e5:(k==5)=false:=by simp only [beq_eq_false_iff_ne,ne_eq];omega
  have e6:(k==6)=false:=by simp only [beq_eq_false_iff_ne,ne_eq];omega
  have e7:(k==7)=false:=by simp only [beq_eq_false_iff_ne,ne_eq];omega
  have e8:(k==8)=false:=by simp only [beq_eq_false_iff_ne,ne_eq];omega
  have e9:(k==9)=false:=by simp only [beq_eq_false_iff_ne,ne_eq];omega
  have e10:(k==10)=false:=by simp only [beq_eq_false_iff_ne,ne_eq];omega
  have e11:(k==11)=false:=by simp only [beq_eq_false_iff_ne,ne_eq];omega
  have e12:(k==12)=false:=by simp only [beq_eq_false_iff_ne,ne_eq];omega
  have e13:(k==13)=false:=by simp only [beq_eq_false_iff_ne,ne_eq];omega
  have e14:(k==14)=false:=by simp only [beq_eq_false_iff_ne,ne_eq];omega
  have e15:(k==15)=false:=by simp only [beq_eq_false_iff_ne,ne_eq];omega
  have e16:(k==16)=false:=by simp only [beq_eq_false_iff_ne,ne_eq];omega
  have e17:(k==17)=false:=by simp only [beq_eq_false_iff_ne,ne_eq];omega
  have e18:(k==18)=false:=by simp only [beq_eq_false_iff_ne,ne_eq];omega
  have e19:(k==19)=false:=by simp only [beq_eq_false_iff_ne,ne_eq];omega
  clear hkd;refine FI PM Tryz.func224 Tryz.ntmps224 [] rfl rfl ?_
  (have hWf:=w10 @e1 @e2 @e3 @e4 @e5 @e6 @e7 @e8 @e9 (ai @e10<|ai @e11<|ai @e12<|ai @e13<|ai @e14<|ai @e15<|ai @e16<|ai @e17<|ai @e18<|@e19);repeat' (first|refine zS ?_|refine zI ?_ ?_|exact zF0|refine zD fun hb=>?_|exact zC|refine zT ?_|fail))
 ·rcases (show k=1\/k=2\/k=3\/k=4\/k=5\/k=6\/k=7\/k=8\/k=9\/k=10\/k=11\/k=12\/k=13\/k=14\/k=15\/k=16\/k=17\/k=18\/k=19 by omega) with rfl|rfl|rfl|rfl|rfl|rfl|rfl|rfl|rfl|rfl|rfl|rfl|rfl|rfl|rfl|rfl|rfl|rfl|rfl
  all_goals
   clear hkd;refine FI PM Tryz.func224 Tryz.ntmps224 [] rfl rfl ?_
   (have hWf:=f0;repeat' (first|refine zS ?_|refine zI ?_ ?_|exact zF0|refine zD fun hb=>?_|exact zC|refine zT ?_|fail))
   all_goals (try rfl)
theorem xY(k:Int):FT 178 [.s (.int .i64 k)] (fun r _=>r=.s (.int .i64 (arI k))):=by
 by_cases hkd:k<1\/19<k
 ·rw [VI hkd]
  have e1:(k==1)=false:=by simp only [beq_eq_false_iff_ne,ne_eq];omega
  have e2:(k==2)=false:=by simp only [beq_eq_false_iff_ne,ne_eq];omega
  have e3:(k==3)=false:=by simp only [beq_eq_false_iff_ne,ne_eq];omega
  have e4:(k==4)=false:=by simp only [beq_eq_false_iff_ne,ne_eq];omega
  have e5:(k==5)=false:=by simp only [beq_eq_false_iff_ne,ne_eq];omega
  have e6:(k==6)=false:=by simp only [beq_eq_false_iff_ne,ne_eq];omega
  have e7:(k==7)=false:=by simp only [beq_eq_false_iff_ne,ne_eq];omega
  have e8:(k==8)=false:=by simp only [beq_eq_false_iff_ne,ne_eq];omega
  have e9:(k==9)=false:=by simp only [beq_eq_false_iff_ne,ne_eq];omega
  have e10:(k==10)=false:=by simp only [beq_eq_false_iff_ne,ne_eq];omega
  have e11:(k==11)=false:=by simp only [beq_eq_false_iff_ne,ne_eq];omega
  have e12:(k==12)=false:=by simp only [beq_eq_false_iff_ne,ne_eq];omega
  have e13:(k==13)=false:=by simp only [beq_eq_false_iff_ne,ne_eq];omega
  have e14:(k==14)=false:=by simp only [beq_eq_false_iff_ne,ne_eq];omega
  have e15:(k==15)=false:=by simp only [beq_eq_false_iff_ne,ne_eq];omega
  have e16:(k==16)=false:=by simp only [beq_eq_false_iff_ne,ne_eq];omega
  have e17:(k==17)=false:=by simp only [beq_eq_false_iff_ne,ne_eq];omega
  have e18:(k==18)=false:=by simp only [beq_eq_false_iff_ne,ne_eq];omega
  have e19:(k==19)=false:=by simp only [beq_eq_false_iff_ne,ne_eq];omega
  clear hkd;refine FI PM Tryz.func178 Tryz.ntmps178 [] rfl rfl ?_
  (have hWf:=w10 @e1 @e2 @e3 @e4 @e5 @e6 @e7 @e8 @e9 (ai @e10<|ai @e11<|ai @e12<|ai @e13<|ai @e14<|ai @e15<|ai @e16<|ai @e17<|ai @e18<|@e19);repeat' (first|refine zS ?_|refine zI ?_ ?_|exact zF0|refine zD fun hb=>?_|exact zC|refine zT ?_|fail))
 ·rcases (show k=1\/k=2\/k=3\/k=4\/k=5\/k=6\/k=7\/k=8\/k=9\/k=10\/k=11\/k=12\/k=13\/k=14\/k=15\/k=16\/k=17\/k=18\/k=19 by omega) with rfl|rfl|rfl|rfl|rfl|rfl|rfl|rfl|rfl|rfl|rfl|rfl|rfl|rfl|rfl|rfl|rfl|rfl|rfl
  all_goals
   clear hkd;refine FI PM Tryz.func178 Tryz.ntmps178 [] rfl rfl ?_
   (have hWf:=f0;repeat' (first|refine zS ?_|refine zI ?_ ?_|exact zF0|refine zD fun hb=>?_|exact zC|refine zT ?_|fail))
   all_goals (try rfl)
def itB(params:Int)(x:TyI):Bool:=x.name.toList.isEmpty&&decide (params<=x.v)
theorem xa8{params:Int}{c:MCon}(h:conM c.name.data.toList=false):ye params c=false:=by unfold ye;rw [h];rfl
theorem con_bad2{params:Int}{c:MCon}(h:c.has=false)(h2:0<c.arg.length):ye params c=false:=by
 unfold ye;rw [h,decide_eq_false (by omega:¬ c.arg.length=0)];simp
theorem con_bad3{params:Int}{c:MCon}(h:c.has=true)(h2:wc c.arg=false):ye params c=false:=by
 unfold ye;rw [h,h2];simp
theorem con_ok1{params:Int}{c:MCon}(h1:conM c.name.data.toList=true)(h:c.has=false)(h2:c.arg.length=0):ye params c=c.arg.all fun x=>!itB params x:=by
 unfold ye;have:c.arg=[]:=List.eq_nil_of_length_eq_zero h2;rw [h1,h,this];rfl
theorem con_ok2{params:Int}{c:MCon}(h1:conM c.name.data.toList=true)(h:c.has=true)(h2:wc c.arg=true):ye params c=c.arg.all fun x=>!itB params x:=by
 unfold ye itB;rw [h1,h,h2];simp
theorem xaq{t:MType}(h:(yn t.name=false\/t.params<0\/2<t.params)\/(t.cons.length:Int)<1\/8<(t.cons.length:Int)):yI t=false:=by
 unfold yI;rcases h with (h|h|h)|h|h
 ·rw [h];rfl
 ·rw [decide_eq_false (by omega:¬ 0<=t.params)];simp
 ·rw [decide_eq_false (by omega:¬ t.params<=2)];simp
 ·rw [decide_eq_false (by omega:¬ 1<=t.cons.length)];simp
 ·rw [decide_eq_false (by omega:¬ t.cons.length<=8)];simp
theorem xbS{t:MType}(h:(yn t.name=true/\0<=t.params/\t.params<=2)/\1<=(t.cons.length:Int)/\(t.cons.length:Int)<=8):yI t=t.cons.all (ye t.params):=by
 unfold yI;obtain ⟨⟨h1,h2,h3⟩,h4,h5⟩:=h;rw [h1,decide_eq_true h2,decide_eq_true h3,decide_eq_true (by omega:1<=t.cons.length),decide_eq_true (by omega:t.cons.length<=8)]
 rfl
theorem itB_t{p:Int}{x:TyI}(h:x.name.toList.isEmpty=true/\p<=x.v):(!itB p x)=false:=by unfold itB;rw [h.1,decide_eq_true h.2];rfl
theorem itB_f{p:Int}{x:TyI}(h:x.name.toList.isEmpty=false\/x.v<p):(!itB p x)=true:=by
 unfold itB;rcases h with h|h
 ·rw [h];rfl
 ·rw [decide_eq_false (by omega:¬ p<=x.v)];simp
theorem c_typeOk(t:MType)(ho:t.ok)(hs:t.sm):FT 185 [.ag t.enc] (fun r _=>r=.s (.bool (yI t))):=by
 obtain ⟨o1,o2,o3⟩:=ho;obtain ⟨s1,s2,s3⟩:=hs;refine FI PM Tryz.func185 Tryz.ntmps185 [] rfl rfl ?_
 (have hWf:=w1 @MType.enc_eq;repeat' (first|refine zS ?_|refine zI ?_ ?_|refine zK (wB t.name o1) ?_|refine zK (yy t.params 0 2) ?_|refine zK (yy t.cons.length 1 8) ?_|exact zF0|refine zD fun hb=>?_|exact zC|refine zT ?_|fail))
 ·rw [xaq hb]
 ·rw [xbS hb]
  refine xd (fun n σ=>∃ k:Nat,k<=t.cons.length/\n=t.cons.length - k/\σ.t 1=.bx 1 0/\σ.b 1=some (.box [.s (.string t.name),.s (.int .i64 t.params),.sl 3 (t.cons.map MCon.enc)])/\σ.t 25=.sl 3 (t.cons.map MCon.enc)/\σ.t 26=.s (.int .i64 t.cons.length)/\σ.t 27=.s (.int .i64 k)/\∀ c∈t.cons.take k,ye t.params c=true) t.cons.length ⟨0,by omega,by omega,?_⟩ ?_
  ·simp only [go_sem,simprocAttr,Int.natCast_zero]
   all_goals simp
  ·rintro n σ ⟨k,hk,rfl,h1,hb1,h25,h26,h27,hno⟩ K' hK
   by_cases hlt:k<t.cons.length
   ·have hx:=xb MCon.enc t.cons k hlt
    have he:=MCon.enc_eq t.cons[k];have hok:=o3 _ (List.getElem_mem hlt);have hsm:=s3 _ (List.getElem_mem hlt);have hal:t.cons[k].arg.length<=1048576:=hsm.2.1;cases hcn:conM t.cons[k].name.data.toList with
    | false=>
     (have hWf:=w8 @h1 @hb1 @h25 @h26 @h27 @hx @he @hcn;repeat' (first|refine zS ?_|refine zI ?_ ?_|refine zK (wm t.cons[k].name hok.1) ?_|((with_reducible apply xc);refine zG (yM t.cons[k].arg hok.2.2 (by omega)) ?_)|refine zU (yM t.cons[k].arg hok.2.2 (by omega)) ?_|exact zF0|refine zD fun hb=>?_|exact zC|refine zT ?_|fail))
     all_goals exact sB (yZ hlt (xa8 hcn)).symm
    | true=>
     cases hh:t.cons[k].has with
     | false=>
      by_cases hz:t.cons[k].arg.length=0
      ·have hz':decide ((t.cons[k].arg.length:Int)>0)=false:=decide_eq_false (by omega)
       have hco:=con_ok1 (params:=t.params) hcn hh hz
       (have hWf:=w10 @h1 @hb1 @h25 @h26 @h27 @hx @he @hcn @hh @hz';repeat' (first|refine zS ?_|refine zI ?_ ?_|refine zK (wm t.cons[k].name hok.1) ?_|((with_reducible apply xc);refine zG (yM t.cons[k].arg hok.2.2 (by omega)) ?_)|refine zU (yM t.cons[k].arg hok.2.2 (by omega)) ?_|exact zF0|refine zD fun hb=>?_|exact zC|refine zT ?_|fail))
       refine xd (fun n σ=>∃ j:Nat,j<=t.cons[k].arg.length/\n=t.cons[k].arg.length - j/\σ.t 1=.bx 1 0/\σ.b 1=some (.box [.s (.string t.name),.s (.int .i64 t.params),.sl 3 (t.cons.map MCon.enc)])/\σ.t 25=.sl 3 (t.cons.map MCon.enc)/\σ.t 26=.s (.int .i64 t.cons.length)/\σ.t 27=.s (.int .i64 k) /\
        σ.t 59=.sl 3 (t.cons[k].arg.map TyI.enc)/\σ.t 60=.s (.int .i64 t.cons[k].arg.length)/\σ.t 61=.s (.int .i64 j)/\∀ x∈t.cons[k].arg.take j,(!itB t.params x)=true) t.cons[k].arg.length ⟨0,by omega,by omega,?_⟩ ?_
       ·simp only [go_sem,simprocAttr,h1,hb1,h25,h26,h27,Int.natCast_zero]
        all_goals simp
       ·rintro n σ ⟨j,hj,rfl,g1,gb1,g25,g26,g27,g59,g60,g61,hno2⟩ K'' hK''
        by_cases hlj:j<t.cons[k].arg.length
        ·exact absurd hlj (by omega)
        ·obtain rfl:j=t.cons[k].arg.length:=by omega
         (have hWf:=w8 @g1 @gb1 @g25 @g26 @g27 @g59 @g60 @g61;repeat' (first|refine zS ?_|refine zI ?_ ?_|exact zF0|refine zD fun hb=>?_|exact zC|refine zT ?_|fail))
         refine hK (t.cons.length - (k+1)) _ (by omega) ⟨k+1,by omega,rfl,?_⟩
         simp only [go_sem,simprocAttr,g1,gb1,g25,g26,g27,Int.natCast_succ];exact xS hlt hno (by rw [hco];exact x8 hno2)
      ·have hz':decide ((t.cons[k].arg.length:Int)>0)=true:=decide_eq_true (by omega)
       (have hWf:=w10 @h1 @hb1 @h25 @h26 @h27 @hx @he @hcn @hh @hz';repeat' (first|refine zS ?_|refine zI ?_ ?_|refine zK (wm t.cons[k].name hok.1) ?_|((with_reducible apply xc);refine zG (yM t.cons[k].arg hok.2.2 (by omega)) ?_)|refine zU (yM t.cons[k].arg hok.2.2 (by omega)) ?_|exact zF0|refine zD fun hb=>?_|exact zC|refine zT ?_|fail))
       all_goals exact sB (yZ hlt (con_bad2 hh (by omega))).symm
     | true=>
      cases ht:wc t.cons[k].arg with
      | false=>
       (have hWf:=w10 @h1 @hb1 @h25 @h26 @h27 @hx @he @hcn @hh @ht;repeat' (first|refine zS ?_|refine zI ?_ ?_|refine zK (wm t.cons[k].name hok.1) ?_|((with_reducible apply xc);refine zG (yM t.cons[k].arg hok.2.2 (by omega)) ?_)|refine zU (yM t.cons[k].arg hok.2.2 (by omega)) ?_|exact zF0|refine zD fun hb=>?_|exact zC|refine zT ?_|fail))
       all_goals exact sB (yZ hlt (con_bad3 hh ht)).symm
      | true=>
       have hco:=con_ok2 (params:=t.params) hcn hh ht
       (have hWf:=w10 @h1 @hb1 @h25 @h26 @h27 @hx @he @hcn @hh @ht;repeat' (first|refine zS ?_|refine zI ?_ ?_|refine zK (wm t.cons[k].name hok.1) ?_|((with_reducible apply xc);refine zG (yM t.cons[k].arg hok.2.2 (by omega)) ?_)|refine zU (yM t.cons[k].arg hok.2.2 (by omega)) ?_|exact zF0|refine zD fun hb=>?_|exact zC|refine zT ?_|fail))
       refine xd (fun n σ=>∃ j:Nat,j<=t.cons[k].arg.length/\n=t.cons[k].arg.length - j/\σ.t 1=.bx 1 0/\σ.b 1=some (.box [.s (.string t.name),.s (.int .i64 t.params),.sl 3 (t.cons.map MCon.enc)])/\σ.t 25=.sl 3 (t.cons.map MCon.enc)/\σ.t 26=.s (.int .i64 t.cons.length)/\σ.t 27=.s (.int .i64 k) /\
        σ.t 59=.sl 3 (t.cons[k].arg.map TyI.enc)/\σ.t 60=.s (.int .i64 t.cons[k].arg.length)/\σ.t 61=.s (.int .i64 j)/\∀ x∈t.cons[k].arg.take j,(!itB t.params x)=true) t.cons[k].arg.length ⟨0,by omega,by omega,?_⟩ ?_
       ·simp only [go_sem,simprocAttr,h1,hb1,h25,h26,h27,Int.natCast_zero]
        all_goals simp
       ·rintro n σ ⟨j,hj,rfl,g1,gb1,g25,g26,g27,g59,g60,g61,hno2⟩ K'' hK''
        by_cases hlj:j<t.cons[k].arg.length
        ·have gx:=xb TyI.enc t.cons[k].arg j hlj
         have ge:=TyI.enc_eq t.cons[k].arg[j]
         (have hWf:=w10 @g1 @gb1 @g25 @g26 @g27 @g59 @g60 @g61 @gx @ge;repeat' (first|refine zS ?_|refine zI ?_ ?_|exact zF0|refine zD fun hb=>?_|exact zC|refine zT ?_|fail))
         ·exact sB (yZ hlt (by rw [hco];exact yZ hlj (itB_t hb))).symm
         ·refine hK'' (t.cons[k].arg.length - (j+1)) _ (by omega) ⟨j+1,by omega,rfl,?_⟩
          simp only [go_sem,simprocAttr,g1,gb1,g25,g26,g27,g59,g60,Int.natCast_succ];exact xS hlj hno2 (itB_f hb)
        ·obtain rfl:j=t.cons[k].arg.length:=by omega
         (have hWf:=w8 @g1 @gb1 @g25 @g26 @g27 @g59 @g60 @g61;repeat' (first|refine zS ?_|refine zI ?_ ?_|exact zF0|refine zD fun hb=>?_|exact zC|refine zT ?_|fail))
         refine hK (t.cons.length - (k+1)) _ (by omega) ⟨k+1,by omega,rfl,?_⟩
         simp only [go_sem,simprocAttr,g1,gb1,g25,g26,g27,Int.natCast_succ];exact xS hlt hno (by rw [hco];exact x8 hno2)
   ·obtain rfl:k=t.cons.length:=by omega
    (have hWf:=w5 @h1 @hb1 @h25 @h26 @h27;repeat' (first|refine zS ?_|refine zI ?_ ?_|exact zF0|refine zD fun hb=>?_|exact zC|refine zT ?_|fail))
    rw [x8 hno]
theorem c_l04Con(c:MCon)(p:Int)(ho:c.ok)(hs:c.sm):FT 126 [.ag c.enc,.s (.int .i64 p)] (fun r _=>r=.s (.bool (ye p c))):=by
 obtain ⟨o1,-,o3⟩:=ho;have hl:=hs.2.1;cases hcn:conM c.name.data.toList with
 | false=>
  rw [xa8 hcn];refine FI PM Tryz.func126 Tryz.ntmps126 [] rfl rfl ?_
  (have hWf:=w2 @MCon.enc_eq @hcn;repeat' (first|refine zS ?_|refine zI ?_ ?_|refine zK (vI c.name o1) ?_|exact zF0|refine zD fun hb=>?_|exact zC|refine zT ?_|fail))
 | true=>
  cases hh:c.has with
  | false=>
   have e:ye p c=decide (c.arg.length=0):=by unfold ye;rw [hcn,hh];simp
   rw [e];refine FI PM Tryz.func126 Tryz.ntmps126 [] rfl rfl ?_
   (have hWf:=w3 @MCon.enc_eq @hcn @hh;repeat' (first|refine zS ?_|refine zI ?_ ?_|refine zK (vI c.name o1) ?_|exact zF0|refine zD fun hb=>?_|exact zC|refine zT ?_|fail))
   all_goals exact sB (by rw [Bool.eq_iff_iff];simp)
  | true=>
   refine FI PM Tryz.func126 Tryz.ntmps126 [] rfl rfl ?_
   (have hWf:=w3 @MCon.enc_eq @hcn @hh;repeat' (first|refine zS ?_|refine zI ?_ ?_|refine zK (vI c.name o1) ?_|exact zF0|refine zD fun hb=>?_|exact zC|refine zT ?_|fail))
   refine xd (fun n σ=>∃ j:Nat,j<=c.arg.length/\n=c.arg.length - j/\σ.t 1=.s (.int .i64 p)/\σ.t 2=.bx 2 0/\σ.b 2=some (.box [.s (.string c.name),.s (.bool true),.sl 3 (c.arg.map TyI.enc)]) /\
    σ.t 21=.sl 3 (c.arg.map TyI.enc)/\σ.t 22=.s (.int .i64 c.arg.length)/\σ.t 23=.s (.int .i64 j)/\∀ x∈c.arg.take j,(!itB p x)=true) c.arg.length ⟨0,by omega,by omega,?_⟩ ?_
   ·simp only [go_sem,simprocAttr,Int.natCast_zero,hh]
    all_goals simp
   ·rintro n σ ⟨j,hj,rfl,g1,g2,gb2,g21,g22,g23,hno⟩ K' hK
    by_cases hlj:j<c.arg.length
    ·have gx:=xb TyI.enc c.arg j hlj
     have ge:=TyI.enc_eq c.arg[j]
     (have hWf:=w8 @g1 @g2 @gb2 @g21 @g22 @g23 @gx @ge;repeat' (first|refine zS ?_|refine zI ?_ ?_|exact zF0|refine zD fun hb=>?_|exact zC|refine zT ?_|fail))
     ·refine sB ?_
      have:=yZ (p:=fun x:TyI=>!itB p x) hlj (itB_t hb)
      unfold itB at this
      unfold ye;rw [this,hh];simp
     ·refine hK (c.arg.length - (j+1)) _ (by omega) ⟨j+1,by omega,rfl,?_⟩
      simp only [go_sem,simprocAttr,g1,g2,gb2,g21,g22,Int.natCast_succ];exact xS hlj hno (itB_f hb)
    ·obtain rfl:j=c.arg.length:=by omega
     (have hWf:=w6 @g1 @g2 @gb2 @g21 @g22 @g23;repeat' (first|refine zS ?_|refine zI ?_ ?_|((with_reducible apply xc);refine zG (Vg c.arg o3 (by omega)) ?_)|refine zU (Vg c.arg o3 (by omega)) ?_|exact zF0|refine zD fun hb=>?_|exact zC|refine zT ?_|fail))
     refine sB ?_;have:=x8 (p:=fun x:TyI=>!itB p x) hno
     unfold itB at this
     unfold ye;rw [this,hh,hcn];simp
theorem zg{nodes:List MNode}{n:MNode}{nb:Bool}(h:n.at_<0\/(0<=arI n.kind/\(n.kids.length:Int)≠arI n.kind)\/(n.kind≠13/\0<(n.pats.length:Int))\/(n.kind≠1/\n.kind≠3/\n.n≠0)):yj nodes n nb=false:=by
 unfold yj;rcases h with h|⟨h1,h2⟩|⟨h1,h2⟩|⟨h1,h2,h3⟩
 ·rw [decide_eq_false (by omega:¬ 0<=n.at_)];simp
 ·rw [decide_eq_false (by omega:¬ arI n.kind<0),decide_eq_false h2];simp
 ·rw [decide_eq_false h1,decide_eq_false (by omega:¬ n.pats.length=0)];simp
 ·rw [decide_eq_false h1,decide_eq_false h2,decide_eq_false h3];simp
theorem zN{nodes:List MNode}{n:MNode}{nb:Bool}(h1:0<=n.at_)(h2:arI n.kind<0\/(n.kids.length:Int)=arI n.kind)(h3:n.kind=13\/(n.pats.length:Int)=0)(h4:n.kind=1\/n.kind=3\/n.n=0):yj nodes n nb=xQ nodes n nb:=by
 unfold yj;rw [decide_eq_true h1];have e2:(decide (arI n.kind<0)||decide ((n.kids.length:Int)=arI n.kind))=true:=by simpa using h2
 have e3:(decide (n.kind=13)||decide (n.pats.length=0))=true:=by
  rcases h3 with h|h
  ·rw [decide_eq_true h];rfl
  ·rw [decide_eq_true (by omega:n.pats.length=0)];simp
 have e4:(decide (n.kind=1)||decide (n.kind=3)||decide (n.n=0))=true:=by
  rcases h4 with h|h|h<;>simp [h]
 rw [e2,e3,e4];rfl
theorem UG(p:MProgram)(kind:Int)(hkd:(kind=1/\arI kind=0)\/(kind=2/\arI kind=0)\/(kind=3/\arI kind=0))(at_ n:Int)(s:ByteArray)(kids:List Int)(pats:List MPat)(hpl:pats.length<=1048576)(hsz:s.size<=maxLen)(f:FuncId)(caps:List D)(hm:PM.md f=[])(nb:Bool)(hf:FT f (.ag (MNode.mk kind at_ n s kids pats).enc::caps) (fun r _=>r=.s (.bool nb))) :
  FT 183 [.ag p.enc,.ag (MNode.mk kind at_ n s kids pats).enc,.fn f caps] (fun r _=>r=.s (.bool (yj p.nodes ⟨kind,at_,n,s,kids,pats⟩ nb))):=by
 rcases hkd with ⟨rfl,ha⟩|⟨rfl,ha⟩|⟨rfl,ha⟩
 all_goals
  refine FI PM Tryz.func183 Tryz.ntmps183 [(16,10,[],[],(lin [] [0,1,2,3,4,5,6,7,8,9])),(18,3,[],[],(lin [] [0,1,2])),(20,17,[],[],(lin [] [0,1,2,3,4,5,6,7,8,9,10,11,12,13,14,15,16]))] rfl rfl ?_;rw [MNode.enc_eq] at hf
  (have hWf:=w5 @MNode.enc_eq @MProgram.enc_eq @ha @hm @zo;repeat' (first|refine zS ?_|refine zI ?_ ?_|((with_reducible apply xc);refine zG (x6 _) ?_)|((with_reducible apply xf);refine xe (x6 _) ?_)|refine zK hf ?_|refine zK (yy n 0 4611686018427387903) ?_|refine zK uC ?_|refine zK (Xq s) ?_|exact zF0|refine zD fun hb=>?_|exact zC|refine zT ?_|fail))
  all_goals
   (try clear hf)
   first
    | exact fun h=>⟨h,by omega⟩
    | exact fun h=>⟨h,by omega,by omega⟩
    | exact fun h=>⟨h,h,by omega,by omega⟩
    | rw [zg (by (try dsimp only [List.length_nil,List.length_cons]);rw [ha];omega)]
    | (rw [zN (by (try dsimp only);omega) (by (try dsimp only [List.length_nil,List.length_cons]);rw [ha];omega) (by (try dsimp only);omega) (by (try dsimp only);omega)];(try simp only [xQ,Int.reduceEq,or_false,false_or,or_true,true_or,or_self,if_true,if_false,↓reduceIte,Int.reduceLE,decide_true,Bool.true_and]);(try (refine sB ?_;first|rfl|rfl|(rw [Bool.eq_iff_iff];simp only [Bool.and_eq_true,decide_eq_true_eq,beq_iff_eq];omega)|(simp;done)|(rw [Bool.eq_iff_iff];simp;omega))))
theorem UH(p:MProgram)(kind:Int)(hkd:(kind=5/\arI kind=1)\/(kind=7/\arI kind=2)\/(kind=15/\arI kind=2))(at_ n:Int)(s:ByteArray)(kids:List Int)(pats:List MPat)(hpl:pats.length<=1048576)(hsz:s.size<=maxLen)(f:FuncId)(caps:List D)(hm:PM.md f=[])(nb:Bool)(hf:FT f (.ag (MNode.mk kind at_ n s kids pats).enc::caps) (fun r _=>r=.s (.bool nb))) :
  FT 183 [.ag p.enc,.ag (MNode.mk kind at_ n s kids pats).enc,.fn f caps] (fun r _=>r=.s (.bool (yj p.nodes ⟨kind,at_,n,s,kids,pats⟩ nb))):=by
 rcases hkd with ⟨rfl,ha⟩|⟨rfl,ha⟩|⟨rfl,ha⟩
 all_goals
  refine FI PM Tryz.func183 Tryz.ntmps183 [(16,10,[],[],(lin [] [0,1,2,3,4,5,6,7,8,9])),(18,3,[],[],(lin [] [0,1,2])),(20,17,[],[],(lin [] [0,1,2,3,4,5,6,7,8,9,10,11,12,13,14,15,16]))] rfl rfl ?_;rw [MNode.enc_eq] at hf
  (have hWf:=w5 @MNode.enc_eq @MProgram.enc_eq @ha @hm @zo;repeat' (first|refine zS ?_|refine zI ?_ ?_|((with_reducible apply xc);refine zG (x6 _) ?_)|((with_reducible apply xf);refine xe (x6 _) ?_)|refine zK hf ?_|refine zK (yy n 0 4611686018427387903) ?_|refine zK uC ?_|refine zK (Xq s) ?_|exact zF0|refine zD fun hb=>?_|exact zC|refine zT ?_|fail))
  all_goals
   (try clear hf)
   first
    | exact fun h=>⟨h,by omega⟩
    | exact fun h=>⟨h,by omega,by omega⟩
    | exact fun h=>⟨h,h,by omega,by omega⟩
    | rw [zg (by (try dsimp only [List.length_nil,List.length_cons]);rw [ha];omega)]
    | (rw [zN (by (try dsimp only);omega) (by (try dsimp only [List.length_nil,List.length_cons]);rw [ha];omega) (by (try dsimp only);omega) (by (try dsimp only);omega)];(try simp only [xQ,Int.reduceEq,or_false,false_or,or_true,true_or,or_self,if_true,if_false,↓reduceIte,Int.reduceLE,decide_true,Bool.true_and]);(try (refine sB ?_;first|rfl|rfl|(rw [Bool.eq_iff_iff];simp only [Bool.and_eq_true,decide_eq_true_eq,beq_iff_eq];omega)|(simp;done)|(rw [Bool.eq_iff_iff];simp;omega))))
theorem UI(p:MProgram)(kind:Int)(hkd:(kind=6/\arI kind=2)\/(kind=9/\arI kind=3)\/(kind=10/\arI kind=2))(at_ n:Int)(s:ByteArray)(kids:List Int)(pats:List MPat)(hpl:pats.length<=1048576)(hsz:s.size<=maxLen)(f:FuncId)(caps:List D)(hm:PM.md f=[])(nb:Bool)(hf:FT f (.ag (MNode.mk kind at_ n s kids pats).enc::caps) (fun r _=>r=.s (.bool nb))) :
  FT 183 [.ag p.enc,.ag (MNode.mk kind at_ n s kids pats).enc,.fn f caps] (fun r _=>r=.s (.bool (yj p.nodes ⟨kind,at_,n,s,kids,pats⟩ nb))):=by
 rcases hkd with ⟨rfl,ha⟩|⟨rfl,ha⟩|⟨rfl,ha⟩
 all_goals
  refine FI PM Tryz.func183 Tryz.ntmps183 [(16,10,[],[],(lin [] [0,1,2,3,4,5,6,7,8,9])),(18,3,[],[],(lin [] [0,1,2])),(20,17,[],[],(lin [] [0,1,2,3,4,5,6,7,8,9,10,11,12,13,14,15,16]))] rfl rfl ?_;rw [MNode.enc_eq] at hf
  (have hWf:=w5 @MNode.enc_eq @MProgram.enc_eq @ha @hm @zo;repeat' (first|refine zS ?_|refine zI ?_ ?_|((with_reducible apply xc);refine zG (x6 _) ?_)|((with_reducible apply xf);refine xe (x6 _) ?_)|refine zK hf ?_|refine zK (yy n 0 4611686018427387903) ?_|refine zK uC ?_|refine zK (Xq s) ?_|exact zF0|refine zD fun hb=>?_|exact zC|refine zT ?_|fail))
  all_goals
   (try clear hf)
   first
    | exact fun h=>⟨h,by omega⟩
    | exact fun h=>⟨h,by omega,by omega⟩
    | exact fun h=>⟨h,h,by omega,by omega⟩
    | rw [zg (by (try dsimp only [List.length_nil,List.length_cons]);rw [ha];omega)]
    | (rw [zN (by (try dsimp only);omega) (by (try dsimp only [List.length_nil,List.length_cons]);rw [ha];omega) (by (try dsimp only);omega) (by (try dsimp only);omega)];(try simp only [xQ,Int.reduceEq,or_false,false_or,or_true,true_or,or_self,if_true,if_false,↓reduceIte,Int.reduceLE,decide_true,Bool.true_and]);(try (refine sB ?_;first|rfl|rfl|(rw [Bool.eq_iff_iff];simp only [Bool.and_eq_true,decide_eq_true_eq,beq_iff_eq];omega)|(simp;done)|(rw [Bool.eq_iff_iff];simp;omega))))
theorem UJ(p:MProgram)(kind:Int)(hkd:(kind=11/\arI kind=2)\/(kind=12/\arI kind=0)\/(kind=13/\arI kind = -1))(at_ n:Int)(s:ByteArray)(kids:List Int)(pats:List MPat)(hpl:pats.length<=1048576)(hsz:s.size<=maxLen)(f:FuncId)(caps:List D)(hm:PM.md f=[])(nb:Bool)(hf:FT f (.ag (MNode.mk kind at_ n s kids pats).enc::caps) (fun r _=>r=.s (.bool nb))) :
  FT 183 [.ag p.enc,.ag (MNode.mk kind at_ n s kids pats).enc,.fn f caps] (fun r _=>r=.s (.bool (yj p.nodes ⟨kind,at_,n,s,kids,pats⟩ nb))):=by
 rcases hkd with ⟨rfl,ha⟩|⟨rfl,ha⟩|⟨rfl,ha⟩
 all_goals
  refine FI PM Tryz.func183 Tryz.ntmps183 [(16,10,[],[],(lin [] [0,1,2,3,4,5,6,7,8,9])),(18,3,[],[],(lin [] [0,1,2])),(20,17,[],[],(lin [] [0,1,2,3,4,5,6,7,8,9,10,11,12,13,14,15,16]))] rfl rfl ?_;rw [MNode.enc_eq] at hf
  (have hWf:=w5 @MNode.enc_eq @MProgram.enc_eq @ha @hm @zo;repeat' (first|refine zS ?_|refine zI ?_ ?_|((with_reducible apply xc);refine zG (x6 _) ?_)|((with_reducible apply xf);refine xe (x6 _) ?_)|refine zK hf ?_|refine zK (yy n 0 4611686018427387903) ?_|refine zK uC ?_|refine zK (Xq s) ?_|exact zF0|refine zD fun hb=>?_|exact zC|refine zT ?_|fail))
  all_goals
   (try clear hf)
   first
    | exact fun h=>⟨h,by omega⟩
    | exact fun h=>⟨h,by omega,by omega⟩
    | exact fun h=>⟨h,h,by omega,by omega⟩
    | rw [zg (by (try dsimp only [List.length_nil,List.length_cons]);rw [ha];omega)]
    | (rw [zN (by (try dsimp only);omega) (by (try dsimp only [List.length_nil,List.length_cons]);rw [ha];omega) (by (try dsimp only);omega) (by (try dsimp only);omega)];(try simp only [xQ,Int.reduceEq,or_false,false_or,or_true,true_or,or_self,if_true,if_false,↓reduceIte,Int.reduceLE,decide_true,Bool.true_and]);(try (refine sB ?_;first|rfl|(rw [show decide ((pats.length:Int) ≥ 1)=decide (1<=pats.length) from (by rw [decide_eq_decide];omega),show ((kids.length:Int)==(pats.length:Int)+1)=decide (kids.length=pats.length+1) from (by rw [Bool.eq_iff_iff];simp only [beq_iff_eq,decide_eq_true_eq];omega)])|(rw [Bool.eq_iff_iff];simp only [Bool.and_eq_true,decide_eq_true_eq,beq_iff_eq];omega)|(simp;done)|(rw [Bool.eq_iff_iff];simp;omega))))
theorem UK(p:MProgram)(kind:Int)(hkd:(kind=14/\arI kind=1)\/(kind=16/\arI kind=1)\/(kind=17/\arI kind=1))(at_ n:Int)(s:ByteArray)(kids:List Int)(pats:List MPat)(hpl:pats.length<=1048576)(hsz:s.size<=maxLen)(f:FuncId)(caps:List D)(hm:PM.md f=[])(nb:Bool)(hf:FT f (.ag (MNode.mk kind at_ n s kids pats).enc::caps) (fun r _=>r=.s (.bool nb))) :
  FT 183 [.ag p.enc,.ag (MNode.mk kind at_ n s kids pats).enc,.fn f caps] (fun r _=>r=.s (.bool (yj p.nodes ⟨kind,at_,n,s,kids,pats⟩ nb))):=by
 rcases hkd with ⟨rfl,ha⟩|⟨rfl,ha⟩|⟨rfl,ha⟩
 all_goals
  refine FI PM Tryz.func183 Tryz.ntmps183 [(16,10,[],[],(lin [] [0,1,2,3,4,5,6,7,8,9])),(18,3,[],[],(lin [] [0,1,2])),(20,17,[],[],(lin [] [0,1,2,3,4,5,6,7,8,9,10,11,12,13,14,15,16]))] rfl rfl ?_;rw [MNode.enc_eq] at hf
  (have hWf:=w5 @MNode.enc_eq @MProgram.enc_eq @ha @hm @zo;repeat' (first|refine zS ?_|refine zI ?_ ?_|((with_reducible apply xc);refine zG (x6 _) ?_)|((with_reducible apply xf);refine xe (x6 _) ?_)|refine zK hf ?_|refine zK (yy n 0 4611686018427387903) ?_|refine zK uC ?_|refine zK (Xq s) ?_|exact zF0|refine zD fun hb=>?_|exact zC|refine zT ?_|fail))
  all_goals
   (try clear hf)
   first
    | exact fun h=>⟨h,by omega⟩
    | exact fun h=>⟨h,by omega,by omega⟩
    | exact fun h=>⟨h,h,by omega,by omega⟩
    | rw [zg (by (try dsimp only [List.length_nil,List.length_cons]);rw [ha];omega)]
    | (rw [zN (by (try dsimp only);omega) (by (try dsimp only [List.length_nil,List.length_cons]);rw [ha];omega) (by (try dsimp only);omega) (by (try dsimp only);omega)];(try simp only [xQ,Int.reduceEq,or_false,false_or,or_true,true_or,or_self,if_true,if_false,↓reduceIte,Int.reduceLE,decide_true,Bool.true_and]);(try (refine sB ?_;first|rfl|rfl|(rw [Bool.eq_iff_iff];simp only [Bool.and_eq_true,decide_eq_true_eq,beq_iff_eq];omega)|(simp;done)|(rw [Bool.eq_iff_iff];simp;omega))))
theorem xbt(p:MProgram)(kind:Int)(hkd:(kind=18/\arI kind=2)\/(kind=19/\arI kind=2))(at_ n:Int)(s:ByteArray)(kids:List Int)(pats:List MPat)(hpl:pats.length<=1048576)(hsz:s.size<=maxLen)(f:FuncId)(caps:List D)(hm:PM.md f=[])(nb:Bool)(hf:FT f (.ag (MNode.mk kind at_ n s kids pats).enc::caps) (fun r _=>r=.s (.bool nb))) :
  FT 183 [.ag p.enc,.ag (MNode.mk kind at_ n s kids pats).enc,.fn f caps] (fun r _=>r=.s (.bool (yj p.nodes ⟨kind,at_,n,s,kids,pats⟩ nb))):=by
 rcases hkd with ⟨rfl,ha⟩|⟨rfl,ha⟩
 all_goals
  refine FI PM Tryz.func183 Tryz.ntmps183 [(16,10,[],[],(lin [] [0,1,2,3,4,5,6,7,8,9])),(18,3,[],[],(lin [] [0,1,2])),(20,17,[],[],(lin [] [0,1,2,3,4,5,6,7,8,9,10,11,12,13,14,15,16]))] rfl rfl ?_;rw [MNode.enc_eq] at hf
  (have hWf:=w5 @MNode.enc_eq @MProgram.enc_eq @ha @hm @zo;repeat' (first|refine zS ?_|refine zI ?_ ?_|((with_reducible apply xc);refine zG (x6 _) ?_)|((with_reducible apply xf);refine xe (x6 _) ?_)|refine zK hf ?_|refine zK (yy n 0 4611686018427387903) ?_|refine zK uC ?_|refine zK (Xq s) ?_|exact zF0|refine zD fun hb=>?_|exact zC|refine zT ?_|fail))
  all_goals
   (try clear hf)
   first
    | exact fun h=>⟨h,by omega⟩
    | exact fun h=>⟨h,by omega,by omega⟩
    | exact fun h=>⟨h,h,by omega,by omega⟩
    | rw [zg (by (try dsimp only [List.length_nil,List.length_cons]);rw [ha];omega)]
    | (rw [zN (by (try dsimp only);omega) (by (try dsimp only [List.length_nil,List.length_cons]);rw [ha];omega) (by (try dsimp only);omega) (by (try dsimp only);omega)];(try simp only [xQ,Int.reduceEq,or_false,false_or,or_true,true_or,or_self,if_true,if_false,↓reduceIte,Int.reduceLE,decide_true,Bool.true_and]);(try (refine sB ?_;first|rfl|rfl|(rw [Bool.eq_iff_iff];simp only [Bool.and_eq_true,decide_eq_true_eq,beq_iff_eq];omega)|(simp;done)|(rw [Bool.eq_iff_iff];simp;omega))))
theorem nodeOk_4N(p:MProgram)(at_ n:Int)(s:ByteArray)(pats:List MPat)(hpl:pats.length<=1048576)(hsz:s.size<=maxLen)(f:FuncId)(caps:List D)(hm:PM.md f=[])(nb:Bool)(hf:FT f (.ag (MNode.mk 4 at_ n s [] pats).enc::caps) (fun r _=>r=.s (.bool nb))) :
  FT 183 [.ag p.enc,.ag (MNode.mk 4 at_ n s [] pats).enc,.fn f caps] (fun r _=>r=.s (.bool (yj p.nodes ⟨4,at_,n,s,[],pats⟩ nb))):=by
 have ha:arI 4 = -1:=by decide
 rw [MNode.enc_eq] at hf
 refine FI PM Tryz.func183 Tryz.ntmps183 [(16,10,[],[],(lin [] [0,1,2,3,4,5,6,7,8,9])),(18,3,[],[],(lin [] [0,1,2])),(20,17,[],[],(lin [] [0,1,2,3,4,5,6,7,8,9,10,11,12,13,14,15,16]))] rfl rfl ?_
 (have hWf:=w5 @MNode.enc_eq @MProgram.enc_eq @ha @hm @xr;repeat' (first|refine zS ?_|refine zI ?_ ?_|((with_reducible apply xc);refine zG (x6 _) ?_)|((with_reducible apply xf);refine xe (x6 _) ?_)|((with_reducible apply xc);refine zG (z6 s hsz 0 _) ?_)|((with_reducible apply xf);refine xe (z6 s hsz 0 _) ?_)|exact zF0|refine zD fun hb=>?_|exact zC|refine zT ?_|fail))
 all_goals
  (try clear hf)
  first
   | exact fun h=>⟨h,by omega⟩
   | exact fun h=>⟨h,by omega,by omega⟩
   | exact fun h=>⟨h,h,by omega,by omega⟩
   | rw [zg (by (try dsimp only [List.length_nil,List.length_cons]);rw [ha];omega)]
   | (rw [zN (by (try dsimp only);omega) (by (try dsimp only [List.length_nil,List.length_cons]);rw [ha];omega) (by (try dsimp only);omega) (by (try dsimp only);omega)];(try simp only [xQ,Int.reduceEq,or_false,false_or,or_true,true_or,or_self,if_true,if_false,↓reduceIte,Int.reduceLE,decide_true,Bool.true_and]);(try (refine sB ?_;first|rfl|(congr 1;first|rfl|(congr 1;rw [Bool.eq_iff_iff];simp only [List.length_cons,List.length_nil,decide_eq_true_eq,beq_iff_eq];omega)|(simp [kidK];done))|(rw [Bool.eq_iff_iff];simp only [Bool.and_eq_true,decide_eq_true_eq,beq_iff_eq];omega)|(simp;done)|(rw [Bool.eq_iff_iff];simp;omega))))
theorem nodeOk_4C(p:MProgram)(at_ n:Int)(s:ByteArray)(q:Nat)(l:List Int)(hq:q<p.nodes.length)(hll:l.length<=1048576)(pats:List MPat)(hpl:pats.length<=1048576)(hsz:s.size<=maxLen)(f:FuncId)(caps:List D)(hm:PM.md f=[])(nb:Bool)(hf:FT f (.ag (MNode.mk 4 at_ n s ((q:Int)::l) pats).enc::caps) (fun r _=>r=.s (.bool nb))) :
  FT 183 [.ag p.enc,.ag (MNode.mk 4 at_ n s ((q:Int)::l) pats).enc,.fn f caps] (fun r _=>r=.s (.bool (yj p.nodes ⟨4,at_,n,s,((q:Int)::l),pats⟩ nb))):=by
 have ha:arI 4 = -1:=by decide
 rw [MNode.enc_eq] at hf
 have hn:=xb MNode.enc p.nodes q hq;have hne:=MNode.enc_eq p.nodes[q];have hkk:=fun kd=>Wt (nodes:=p.nodes) (l:=(q:Int)::l) (by simp) hq rfl kd
 refine FI PM Tryz.func183 Tryz.ntmps183 [(16,10,[],[],(lin [] [0,1,2,3,4,5,6,7,8,9])),(18,3,[],[],(lin [] [0,1,2])),(20,17,[],[],(lin [] [0,1,2,3,4,5,6,7,8,9,10,11,12,13,14,15,16]))] rfl rfl ?_
 (have hWf:=w7 @MNode.enc_eq @MProgram.enc_eq @ha @hm @xr @hn @hne;repeat' (first|refine zS ?_|refine zI ?_ ?_|((with_reducible apply xc);refine zG (x6 _) ?_)|((with_reducible apply xf);refine xe (x6 _) ?_)|((with_reducible apply xc);refine zG (z6 s hsz (l.length+1) _) ?_)|((with_reducible apply xf);refine xe (z6 s hsz (l.length+1) _) ?_)|exact zF0|refine zD fun hb=>?_|exact zC|refine zT ?_|fail))
 all_goals
  (try clear hf)
  first
   | exact fun h=>⟨h,by omega⟩
   | exact fun h=>⟨h,by omega,by omega⟩
   | exact fun h=>⟨h,h,by omega,by omega⟩
   | rw [zg (by (try dsimp only [List.length_nil,List.length_cons]);rw [ha];omega)]
   | (rw [zN (by (try dsimp only);omega) (by (try dsimp only [List.length_nil,List.length_cons]);rw [ha];omega) (by (try dsimp only);omega) (by (try dsimp only);omega)];(try simp only [xQ,Int.reduceEq,or_false,false_or,or_true,true_or,or_self,if_true,if_false,↓reduceIte,Int.reduceLE,decide_true,Bool.true_and,hkk]);(try (refine sB ?_;first|rfl|(congr 1;first|rfl|(congr 1;rw [Bool.eq_iff_iff];simp only [List.length_cons,List.length_nil,decide_eq_true_eq,beq_iff_eq];omega)|(simp [kidK];done))|(rw [Bool.eq_iff_iff];simp only [Bool.and_eq_true,decide_eq_true_eq,beq_iff_eq];omega)|(simp;done)|(rw [Bool.eq_iff_iff];simp;omega))))
theorem nodeOk_8N(p:MProgram)(at_ n:Int)(s:ByteArray)(pats:List MPat)(hpl:pats.length<=1048576)(hsz:s.size<=maxLen)(f:FuncId)(caps:List D)(hm:PM.md f=[])(nb:Bool)(hf:FT f (.ag (MNode.mk 8 at_ n s [] pats).enc::caps) (fun r _=>r=.s (.bool nb))) :
  FT 183 [.ag p.enc,.ag (MNode.mk 8 at_ n s [] pats).enc,.fn f caps] (fun r _=>r=.s (.bool (yj p.nodes ⟨8,at_,n,s,[],pats⟩ nb))):=by
 have ha:arI 8=2:=by decide
 rw [MNode.enc_eq] at hf
 refine FI PM Tryz.func183 Tryz.ntmps183 [(16,10,[],[],(lin [] [0,1,2,3,4,5,6,7,8,9])),(18,3,[],[],(lin [] [0,1,2])),(20,17,[],[],(lin [] [0,1,2,3,4,5,6,7,8,9,10,11,12,13,14,15,16]))] rfl rfl ?_
 (have hWf:=w5 @MNode.enc_eq @MProgram.enc_eq @ha @hm @xr;repeat' (first|refine zS ?_|refine zI ?_ ?_|((with_reducible apply xc);refine zG (x6 _) ?_)|((with_reducible apply xf);refine xe (x6 _) ?_)|refine zK hf ?_|exact zF0|refine zD fun hb=>?_|exact zC|refine zT ?_|fail))
 all_goals
  (try clear hf)
  first
   | exact fun h=>⟨h,by omega⟩
   | exact fun h=>⟨h,by omega,by omega⟩
   | exact fun h=>⟨h,h,by omega,by omega⟩
   | rw [zg (by (try dsimp only [List.length_nil,List.length_cons]);rw [ha];omega)]
   | (rw [zN (by (try dsimp only);omega) (by (try dsimp only [List.length_nil,List.length_cons]);rw [ha];omega) (by (try dsimp only);omega) (by (try dsimp only);omega)];(try simp only [xQ,Int.reduceEq,or_false,false_or,or_true,true_or,or_self,if_true,if_false,↓reduceIte,Int.reduceLE,decide_true,Bool.true_and]);(try (refine sB ?_;first|rfl|(congr 1;first|rfl|(congr 1;rw [Bool.eq_iff_iff];simp only [List.length_cons,List.length_nil,decide_eq_true_eq,beq_iff_eq];omega)|(simp [kidK];done))|(rw [Bool.eq_iff_iff];simp only [Bool.and_eq_true,decide_eq_true_eq,beq_iff_eq];omega)|(simp;done)|(rw [Bool.eq_iff_iff];simp;omega))))
theorem nodeOk_8C(p:MProgram)(at_ n:Int)(s:ByteArray)(q:Nat)(l:List Int)(hq:q<p.nodes.length)(hll:l.length<=1048576)(pats:List MPat)(hpl:pats.length<=1048576)(hsz:s.size<=maxLen)(f:FuncId)(caps:List D)(hm:PM.md f=[])(nb:Bool)(hf:FT f (.ag (MNode.mk 8 at_ n s ((q:Int)::l) pats).enc::caps) (fun r _=>r=.s (.bool nb))) :
  FT 183 [.ag p.enc,.ag (MNode.mk 8 at_ n s ((q:Int)::l) pats).enc,.fn f caps] (fun r _=>r=.s (.bool (yj p.nodes ⟨8,at_,n,s,((q:Int)::l),pats⟩ nb))):=by
 have ha:arI 8=2:=by decide
 rw [MNode.enc_eq] at hf
 have hn:=xb MNode.enc p.nodes q hq;have hne:=MNode.enc_eq p.nodes[q];have hkk:=fun kd=>Wt (nodes:=p.nodes) (l:=(q:Int)::l) (by simp) hq rfl kd
 refine FI PM Tryz.func183 Tryz.ntmps183 [(16,10,[],[],(lin [] [0,1,2,3,4,5,6,7,8,9])),(18,3,[],[],(lin [] [0,1,2])),(20,17,[],[],(lin [] [0,1,2,3,4,5,6,7,8,9,10,11,12,13,14,15,16]))] rfl rfl ?_
 (have hWf:=w7 @MNode.enc_eq @MProgram.enc_eq @ha @hm @xr @hn @hne;repeat' (first|refine zS ?_|refine zI ?_ ?_|((with_reducible apply xc);refine zG (x6 _) ?_)|((with_reducible apply xf);refine xe (x6 _) ?_)|refine zK hf ?_|exact zF0|refine zD fun hb=>?_|exact zC|refine zT ?_|fail))
 all_goals
  (try clear hf)
  first
   | exact fun h=>⟨h,by omega⟩
   | exact fun h=>⟨h,by omega,by omega⟩
   | exact fun h=>⟨h,h,by omega,by omega⟩
   | rw [zg (by (try dsimp only [List.length_nil,List.length_cons]);rw [ha];omega)]
   | (rw [zN (by (try dsimp only);omega) (by (try dsimp only [List.length_nil,List.length_cons]);rw [ha];omega) (by (try dsimp only);omega) (by (try dsimp only);omega)];(try simp only [xQ,Int.reduceEq,or_false,false_or,or_true,true_or,or_self,if_true,if_false,↓reduceIte,Int.reduceLE,decide_true,Bool.true_and,hkk]);(try (refine sB ?_;first|rfl|(congr 1;first|rfl|(congr 1;rw [Bool.eq_iff_iff];simp only [List.length_cons,List.length_nil,decide_eq_true_eq,beq_iff_eq];omega)|(simp [kidK];done))|(rw [Bool.eq_iff_iff];simp only [Bool.and_eq_true,decide_eq_true_eq,beq_iff_eq];omega)|(simp;done)|(rw [Bool.eq_iff_iff];simp;omega))))
theorem nodeOk_X(p:MProgram)(kind:Int)(hkd:kind<1\/19<kind)(at_ n:Int)(s:ByteArray)(kids:List Int)(pats:List MPat)(hpl:pats.length<=1048576)(hsz:s.size<=maxLen)(f:FuncId)(caps:List D)(hm:PM.md f=[])(nb:Bool)(hf:FT f (.ag (MNode.mk kind at_ n s kids pats).enc::caps) (fun r _=>r=.s (.bool nb))) :
  FT 183 [.ag p.enc,.ag (MNode.mk kind at_ n s kids pats).enc,.fn f caps] (fun r _=>r=.s (.bool (yj p.nodes ⟨kind,at_,n,s,kids,pats⟩ nb))):=by
 have ha:=VI hkd;have e1:(kind==1)=false:=by simp only [beq_eq_false_iff_ne,ne_eq];omega
 have e2:(kind==2)=false:=by simp only [beq_eq_false_iff_ne,ne_eq];omega
 have e3:(kind==3)=false:=by simp only [beq_eq_false_iff_ne,ne_eq];omega
 have e4:(kind==4)=false:=by simp only [beq_eq_false_iff_ne,ne_eq];omega
 have e5:(kind==5)=false:=by simp only [beq_eq_false_iff_ne,ne_eq];omega
 have e6:(kind==6)=false:=by simp only [beq_eq_false_iff_ne,ne_eq];omega
 have e7:(kind==7)=false:=by simp only [beq_eq_false_iff_ne,ne_eq];omega
 have e8:(kind==8)=false:=by simp only [beq_eq_false_iff_ne,ne_eq];omega
 have e9:(kind==9)=false:=by simp only [beq_eq_false_iff_ne,ne_eq];omega
 have e10:(kind==10)=false:=by simp only [beq_eq_false_iff_ne,ne_eq];omega
 have e11:(kind==11)=false:=by simp only [beq_eq_false_iff_ne,ne_eq];omega
 have e12:(kind==12)=false:=by simp only [beq_eq_false_iff_ne,ne_eq];omega
 have e13:(kind==13)=false:=by simp only [beq_eq_false_iff_ne,ne_eq];omega
 have e14:(kind==14)=false:=by simp only [beq_eq_false_iff_ne,ne_eq];omega
 have e15:(kind==15)=false:=by simp only [beq_eq_false_iff_ne,ne_eq];omega
 have e16:(kind==16)=false:=by simp only [beq_eq_false_iff_ne,ne_eq];omega
 have e17:(kind==17)=false:=by simp only [beq_eq_false_iff_ne,ne_eq];omega
 have e18:(kind==18)=false:=by simp only [beq_eq_false_iff_ne,ne_eq];omega
 have e19:(kind==19)=false:=by simp only [beq_eq_false_iff_ne,ne_eq];omega
 have n1:(kind != 1)=true:=by simp only [bne_iff_ne,ne_eq];omega
 have n3:(kind != 3)=true:=by simp only [bne_iff_ne,ne_eq];omega
 have n13:(kind != 13)=true:=by simp only [bne_iff_ne,ne_eq];omega
 have m1:(kind=1)=False:=by rw [eq_iff_iff,iff_false];omega
 have m2:(kind=2)=False:=by rw [eq_iff_iff,iff_false];omega
 have m3:(kind=3)=False:=by rw [eq_iff_iff,iff_false];omega
 have m4:(kind=4)=False:=by rw [eq_iff_iff,iff_false];omega
 have m5:(kind=5)=False:=by rw [eq_iff_iff,iff_false];omega
 have m6:(kind=6)=False:=by rw [eq_iff_iff,iff_false];omega
 have m7:(kind=7)=False:=by rw [eq_iff_iff,iff_false];omega
 have m8:(kind=8)=False:=by rw [eq_iff_iff,iff_false];omega
 have m9:(kind=9)=False:=by rw [eq_iff_iff,iff_false];omega
 have m10:(kind=10)=False:=by rw [eq_iff_iff,iff_false];omega
 have m11:(kind=11)=False:=by rw [eq_iff_iff,iff_false];omega
 have m12:(kind=12)=False:=by rw [eq_iff_iff,iff_false];omega
 have m13:(kind=13)=False:=by rw [eq_iff_iff,iff_false];omega
 have m14:(kind=14)=False:=by rw [eq_iff_iff,iff_false];omega
 have m15:(kind=15)=False:=by rw [eq_iff_iff,iff_false];omega
 have m16:(kind=16)=False:=by rw [eq_iff_iff,iff_false];omega
 have m17:(kind=17)=False:=by rw [eq_iff_iff,iff_false];omega
 have m18:(kind=18)=False:=by rw [eq_iff_iff,iff_false];omega
 have m19:(kind=19)=False:=by rw [eq_iff_iff,iff_false];omega
 have g:yj p.nodes ⟨kind,at_,n,s,kids,pats⟩ nb=false:=by
  have g:xQ p.nodes ⟨kind,at_,n,s,kids,pats⟩ nb=false:=by
   unfold xQ;simp only [m1,m2,m3,m4,m5,m6,m7,m8,m9,m10,m11,m12,m13,m14,m15,m16,m17,m18,m19,or_self,if_false];rcases hkd with q|q
   ·rw [decide_eq_false (by omega:¬ 1<=kind)];rfl
   ·rw [decide_eq_false (by omega:¬ kind<=19)];simp
  unfold yj;rw [g];simp
 rw [g];refine FI PM Tryz.func183 Tryz.ntmps183 [(16,10,[],[],(lin [] [0,1,2,3,4,5,6,7,8,9])),(18,3,[],[],(lin [] [0,1,2])),(20,17,[],[],(lin [] [0,1,2,3,4,5,6,7,8,9,10,11,12,13,14,15,16]))] rfl rfl ?_
 (have hWf:=w10 @MNode.enc_eq @MProgram.enc_eq @ha @hm @e1 @e2 @e3 @e4 @e5 (ai @e6<|ai @e7<|ai @e8<|ai @e9<|ai @e10<|ai @e11<|ai @e12<|ai @e13<|ai @e14<|ai @e15<|ai @e16<|ai @e17<|ai @e18<|ai @e19<|ai @n1<|ai @n3<|@n13);repeat' (first|refine zS ?_|refine zI ?_ ?_|((with_reducible apply xc);refine zG (x6 _) ?_)|((with_reducible apply xf);refine xe (x6 _) ?_)|exact zF0|refine zD fun hb=>?_|exact zC|refine zT ?_|fail))
theorem c_nodeOk(p:MProgram)(x:MNode)(ho:x.ok)(hs:x.pats.length<=1048576)(hkl:x.kids.length<=1048576)(f:FuncId)(caps:List D)(hm:PM.md f=[])(nb:Bool)(hf:FT f (.ag x.enc::caps) (fun r _=>r=.s (.bool nb)))(hk:∀ h:0<x.kids.length,∃ q:Nat,x.kids[0]=(q:Int)/\q<p.nodes.length) :
  FT 183 [.ag p.enc,.ag x.enc,.fn f caps] (fun r _=>r=.s (.bool (yj p.nodes x nb))):=by
 obtain ⟨kind,at_,n,s,kids,pats⟩:=x;obtain ⟨o1,o2,o3,o4,o5,o6⟩:=ho;have hsz:s.size<=maxLen:=o4
 by_cases hkd:kind<1\/19<kind
 ·exact nodeOk_X p kind hkd at_ n s kids pats hs hsz f caps hm nb hf
 rcases (show kind=1\/kind=2\/kind=3\/kind=4\/kind=5\/kind=6\/kind=7\/kind=8\/kind=9\/kind=10\/kind=11\/kind=12\/kind=13\/kind=14\/kind=15\/kind=16\/kind=17\/kind=18\/kind=19 by omega) with rfl|rfl|rfl|rfl|rfl|rfl|rfl|rfl|rfl|rfl|rfl|rfl|rfl|rfl|rfl|rfl|rfl|rfl|rfl
 ·exact UG p 1 (.inl ⟨rfl,by decide⟩) at_ n s kids pats hs hsz f caps hm nb hf
 ·exact UG p 2 (.inr (.inl ⟨rfl,by decide⟩)) at_ n s kids pats hs hsz f caps hm nb hf
 ·exact UG p 3 (.inr (.inr (⟨rfl,by decide⟩))) at_ n s kids pats hs hsz f caps hm nb hf
 ·cases kids with
  | nil=>exact nodeOk_4N p at_ n s pats hs hsz f caps hm nb hf
  | cons z l=>
   obtain ⟨q,hz,hq⟩:=hk (by simp)
   have hz:z=(q:Int):=hz;subst hz;exact nodeOk_4C p at_ n s q l hq (by simp at hkl;omega) pats hs hsz f caps hm nb hf
 ·exact UH p 5 (.inl ⟨rfl,by decide⟩) at_ n s kids pats hs hsz f caps hm nb hf
 ·exact UI p 6 (.inl ⟨rfl,by decide⟩) at_ n s kids pats hs hsz f caps hm nb hf
 ·exact UH p 7 (.inr (.inl ⟨rfl,by decide⟩)) at_ n s kids pats hs hsz f caps hm nb hf
 ·cases kids with
  | nil=>exact nodeOk_8N p at_ n s pats hs hsz f caps hm nb hf
  | cons z l=>
   obtain ⟨q,hz,hq⟩:=hk (by simp)
   have hz:z=(q:Int):=hz;subst hz;exact nodeOk_8C p at_ n s q l hq (by simp at hkl;omega) pats hs hsz f caps hm nb hf
 ·exact UI p 9 (.inr (.inl ⟨rfl,by decide⟩)) at_ n s kids pats hs hsz f caps hm nb hf
 ·exact UI p 10 (.inr (.inr (⟨rfl,by decide⟩))) at_ n s kids pats hs hsz f caps hm nb hf
 ·exact UJ p 11 (.inl ⟨rfl,by decide⟩) at_ n s kids pats hs hsz f caps hm nb hf
 ·exact UJ p 12 (.inr (.inl ⟨rfl,by decide⟩)) at_ n s kids pats hs hsz f caps hm nb hf
 ·exact UJ p 13 (.inr (.inr (⟨rfl,by decide⟩))) at_ n s kids pats hs hsz f caps hm nb hf
 ·exact UK p 14 (.inl ⟨rfl,by decide⟩) at_ n s kids pats hs hsz f caps hm nb hf
 ·exact UH p 15 (.inr (.inr (⟨rfl,by decide⟩))) at_ n s kids pats hs hsz f caps hm nb hf
 ·exact UK p 16 (.inr (.inl ⟨rfl,by decide⟩)) at_ n s kids pats hs hsz f caps hm nb hf
 ·exact UK p 17 (.inr (.inr (⟨rfl,by decide⟩))) at_ n s kids pats hs hsz f caps hm nb hf
 ·exact xbt p 18 (.inl ⟨rfl,by decide⟩) at_ n s kids pats hs hsz f caps hm nb hf
 ·exact xbt p 19 (.inr (⟨rfl,by decide⟩)) at_ n s kids pats hs hsz f caps hm nb hf
theorem xN{nodes:List MNode}{x:MNode}:x4 nodes x=true ↔ inB nodes x.kids=true/\0<=x.at_/\(arI x.kind<0\/(x.kids.length:Int)=arI x.kind)/\(x.kind=13\/(x.pats.length:Int)=0)/\(x.kind=1\/x.kind=3\/x.n=0)/\xQ nodes x (yd x)=true/\(x.pats.all fun q=>patM q.nodes)=true:=by
 unfold x4 yj;simp only [Bool.and_eq_true,Bool.or_eq_true,decide_eq_true_eq]
 constructor
 ·rintro ⟨⟨h1,⟨⟨⟨h2,h3⟩,h4⟩,h5⟩,h6⟩,h7⟩
  exact ⟨h1,h2,h3,h4.imp id (fun q=>by omega),by omega,h6,h7⟩
 ·rintro ⟨h1,h2,h3,h4,h5,h6,h7⟩
  exact ⟨⟨h1,⟨⟨⟨h2,h3⟩,h4.imp id (fun q=>by omega)⟩,by omega⟩,h6⟩,h7⟩
theorem pats0{l:List MPat}(h:(l.length:Int)=0):(l.all fun q=>patM q.nodes)=true:=by
 have:l=[]:=List.eq_nil_of_length_eq_zero (by omega)
 rw [this];rfl
theorem wW{nodes:List MNode}{l:List Int}{k:Nat}(h:k<l.length)(hb:l[k]<0\/(nodes.length:Int)<=l[k]):inB nodes l=false:=by
 refine yZ h ?_;rcases hb with q|q
 ·rw [decide_eq_false (by omega)];rfl
 ·rw [decide_eq_false (by omega:¬ l[k]<(nodes.length:Int))];simp
theorem wZ{nodes:List MNode}{x:Int}(h1:0<=x)(h2:x<(nodes.length:Int)):(decide (0<=x)&&decide (x<(nodes.length:Int)))=true:=by
 rw [decide_eq_true h1,decide_eq_true h2];rfl
theorem ZR(p:MProgram)(kind:Int)(hkd:(kind=1/\arI kind=0)\/(kind=2/\arI kind=0)\/(kind=3/\arI kind=0))(at_ n:Int)(s:ByteArray)(kids:List Int)(pats:List MPat)(hkl:kids.length<=1048576)(hpl:pats.length<=1048576)(hsz:s.size<=maxLen)(hop:∀ q∈pats,q.ok)(hsp:smS MPat.sm pats) :
  FT 127 [.ag p.enc,.ag (MNode.mk kind at_ n s kids pats).enc] (fun r _=>r=.s (.bool (x4 p.nodes ⟨kind,at_,n,s,kids,pats⟩))):=by
 obtain ⟨k0,hk0⟩:∃ k0:Int,k0=kind:=⟨_,rfl⟩;rcases hkd with ⟨rfl,ha⟩|⟨rfl,ha⟩|⟨rfl,ha⟩
 all_goals
  refine FI (PMr [15,24]) Tryz.func127 Tryz.ntmps127 [(15,26,[],[],(lin [] [0,1,2,3,4,5,6,7,8,9,10,11,12,13,14,15,16,17,18,19,20,21,22,23,24,25])),(24,15,[],[],(lin [] [0,1,2,3,4,5,6,7,8,9,10,11,12,13,14])),(26,11,[],[],(lin [] [0,1,2,3,4,5,6,7,8,9,10]))] rfl rfl ?_
  (have hWf:=w3 @MNode.enc_eq @MProgram.enc_eq @ha;repeat' (first|refine zS ?_|refine zI ?_ ?_|exact zF0|refine zD fun hb=>?_|exact zC|refine zT ?_|fail))
  all_goals first
  | (
    (try clear hop hsp)
    (try clear hK)
    refine sB ?_;rw [Bool.eq_iff_iff,xN];have hpa0:=@pats0 pats;simp only [xQ,ha,yd] at *
    first|(simp_all;done)|grind|(constructor<;>intro hh<;>grind))
  | (refine xd (fun m σ=>∃ j:Nat,j<=kids.length/\m=kids.length - j/\σ.t 2=.bx 2 0/\σ.t 3=.bx 3 0/\σ.b 2=some (.box [.sl 3 (p.types.map MType.enc),.sl 6 (p.nodes.map MNode.enc)])/\σ.b 3=some (.box [.s (.int .i64 k0),.s (.int .i64 at_),.s (.int .i64 n),.s (.string s),xV kids,.sl 1 (pats.map MPat.enc)]) /\
     σ.t 44=xV kids/\σ.t 45=.s (.int .i64 kids.length)/\σ.t 46=.s (.int .i64 j)/\∀ x∈kids.take j,(decide (0<=x)&&decide (x<(p.nodes.length:Int)))=true) kids.length ⟨0,by omega,by omega,?_⟩ ?_
     ·simp only [go_sem,simprocAttr,Int.natCast_zero,hk0]
      all_goals simp
     ·rintro m σ ⟨j,hj,rfl,g2,g3,gb2,gb3,g44,g45,g46,hno⟩ K' hK
      by_cases hlt:j<kids.length
      ·have hx:=xb iE kids j hlt
       (have hWf:=w10 @hk0 @g2 @g3 @gb2 @gb3 @g44 @g45 @g46 @hx @xr;repeat' (first|refine zS ?_|refine zI ?_ ?_|exact zF0|refine zD fun hb=>?_|exact zC|refine zT ?_|fail))
       ·refine sB ?_
        unfold x4;rw [wW hlt hb];rfl
       ·refine hK (kids.length - (j+1)) _ (by omega) ⟨j+1,by omega,rfl,?_⟩
        simp only [go_sem,simprocAttr,g2,g3,gb2,gb3,g44,g45,Int.natCast_succ];exact xS hlt hno (wZ (by omega) (by omega))
      ·obtain rfl:j=kids.length:=by omega
       have hin:inB p.nodes kids=true:=x8 hno;clear hno hK
       (have hWf:=w8 @hk0 @g2 @g3 @gb2 @gb3 @g44 @g45 @g46;repeat' (first|refine zS ?_|refine zI ?_ ?_|((with_reducible apply xc);refine zG (xY _) ?_)|((with_reducible apply xf);refine xe (xY _) ?_)|refine zK (xJ s hsz) ?_|refine zK (uB s) ?_|exact zF0|refine zD fun hb=>?_|exact zC|refine zT ?_|fail))
       all_goals
        (try clear hop hsp)
        (try clear hK)
        refine sB ?_;rw [Bool.eq_iff_iff,xN];have hpa0:=@pats0 pats;simp only [xQ,ha,yd] at *
        first|(simp_all;done)|grind|(constructor<;>intro hh<;>grind))
theorem ZS(p:MProgram)(kind:Int)(hkd:(kind=5/\arI kind=1)\/(kind=7/\arI kind=2)\/(kind=15/\arI kind=2))(at_ n:Int)(s:ByteArray)(kids:List Int)(pats:List MPat)(hkl:kids.length<=1048576)(hpl:pats.length<=1048576)(hsz:s.size<=maxLen)(hop:∀ q∈pats,q.ok)(hsp:smS MPat.sm pats) :
  FT 127 [.ag p.enc,.ag (MNode.mk kind at_ n s kids pats).enc] (fun r _=>r=.s (.bool (x4 p.nodes ⟨kind,at_,n,s,kids,pats⟩))):=by
 obtain ⟨k0,hk0⟩:∃ k0:Int,k0=kind:=⟨_,rfl⟩;rcases hkd with ⟨rfl,ha⟩|⟨rfl,ha⟩|⟨rfl,ha⟩
 all_goals
  refine FI (PMr [15,24]) Tryz.func127 Tryz.ntmps127 [(15,26,[],[],(lin [] [0,1,2,3,4,5,6,7,8,9,10,11,12,13,14,15,16,17,18,19,20,21,22,23,24,25])),(24,15,[],[],(lin [] [0,1,2,3,4,5,6,7,8,9,10,11,12,13,14])),(26,11,[],[],(lin [] [0,1,2,3,4,5,6,7,8,9,10]))] rfl rfl ?_
  (have hWf:=w3 @MNode.enc_eq @MProgram.enc_eq @ha;repeat' (first|refine zS ?_|refine zI ?_ ?_|exact zF0|refine zD fun hb=>?_|exact zC|refine zT ?_|fail))
  all_goals first
  | (
    (try clear hop hsp)
    (try clear hK)
    refine sB ?_;rw [Bool.eq_iff_iff,xN];have hpa0:=@pats0 pats;simp only [xQ,ha,yd] at *
    first|(simp_all;done)|grind|(constructor<;>intro hh<;>grind))
  | (refine xd (fun m σ=>∃ j:Nat,j<=kids.length/\m=kids.length - j/\σ.t 2=.bx 2 0/\σ.t 3=.bx 3 0/\σ.b 2=some (.box [.sl 3 (p.types.map MType.enc),.sl 6 (p.nodes.map MNode.enc)])/\σ.b 3=some (.box [.s (.int .i64 k0),.s (.int .i64 at_),.s (.int .i64 n),.s (.string s),xV kids,.sl 1 (pats.map MPat.enc)]) /\
     σ.t 44=xV kids/\σ.t 45=.s (.int .i64 kids.length)/\σ.t 46=.s (.int .i64 j)/\∀ x∈kids.take j,(decide (0<=x)&&decide (x<(p.nodes.length:Int)))=true) kids.length ⟨0,by omega,by omega,?_⟩ ?_
     ·simp only [go_sem,simprocAttr,Int.natCast_zero,hk0]
      all_goals simp
     ·rintro m σ ⟨j,hj,rfl,g2,g3,gb2,gb3,g44,g45,g46,hno⟩ K' hK
      by_cases hlt:j<kids.length
      ·have hx:=xb iE kids j hlt
       (have hWf:=w10 @hk0 @g2 @g3 @gb2 @gb3 @g44 @g45 @g46 @hx @xr;repeat' (first|refine zS ?_|refine zI ?_ ?_|exact zF0|refine zD fun hb=>?_|exact zC|refine zT ?_|fail))
       ·refine sB ?_
        unfold x4;rw [wW hlt hb];rfl
       ·refine hK (kids.length - (j+1)) _ (by omega) ⟨j+1,by omega,rfl,?_⟩
        simp only [go_sem,simprocAttr,g2,g3,gb2,gb3,g44,g45,Int.natCast_succ];exact xS hlt hno (wZ (by omega) (by omega))
      ·obtain rfl:j=kids.length:=by omega
       have hin:inB p.nodes kids=true:=x8 hno;clear hno hK
       (have hWf:=w8 @hk0 @g2 @g3 @gb2 @gb3 @g44 @g45 @g46;repeat' (first|refine zS ?_|refine zI ?_ ?_|((with_reducible apply xc);refine zG (xY _) ?_)|((with_reducible apply xf);refine xe (xY _) ?_)|refine zK (xJ s hsz) ?_|refine zK (uB s) ?_|exact zF0|refine zD fun hb=>?_|exact zC|refine zT ?_|fail))
       all_goals
        (try clear hop hsp)
        (try clear hK)
        refine sB ?_;rw [Bool.eq_iff_iff,xN];have hpa0:=@pats0 pats;simp only [xQ,ha,yd] at *
        first|(simp_all;done)|grind|(constructor<;>intro hh<;>grind))
theorem ZT(p:MProgram)(kind:Int)(hkd:(kind=6/\arI kind=2)\/(kind=9/\arI kind=3)\/(kind=10/\arI kind=2))(at_ n:Int)(s:ByteArray)(kids:List Int)(pats:List MPat)(hkl:kids.length<=1048576)(hpl:pats.length<=1048576)(hsz:s.size<=maxLen)(hop:∀ q∈pats,q.ok)(hsp:smS MPat.sm pats) :
  FT 127 [.ag p.enc,.ag (MNode.mk kind at_ n s kids pats).enc] (fun r _=>r=.s (.bool (x4 p.nodes ⟨kind,at_,n,s,kids,pats⟩))):=by
 obtain ⟨k0,hk0⟩:∃ k0:Int,k0=kind:=⟨_,rfl⟩;rcases hkd with ⟨rfl,ha⟩|⟨rfl,ha⟩|⟨rfl,ha⟩
 all_goals
  refine FI (PMr [15,24]) Tryz.func127 Tryz.ntmps127 [(15,26,[],[],(lin [] [0,1,2,3,4,5,6,7,8,9,10,11,12,13,14,15,16,17,18,19,20,21,22,23,24,25])),(24,15,[],[],(lin [] [0,1,2,3,4,5,6,7,8,9,10,11,12,13,14])),(26,11,[],[],(lin [] [0,1,2,3,4,5,6,7,8,9,10]))] rfl rfl ?_
  (have hWf:=w3 @MNode.enc_eq @MProgram.enc_eq @ha;repeat' (first|refine zS ?_|refine zI ?_ ?_|exact zF0|refine zD fun hb=>?_|exact zC|refine zT ?_|fail))
  all_goals first
  | (
    (try clear hop hsp)
    (try clear hK)
    refine sB ?_;rw [Bool.eq_iff_iff,xN];have hpa0:=@pats0 pats;simp only [xQ,ha,yd] at *
    first|(simp_all;done)|grind|(constructor<;>intro hh<;>grind))
  | (refine xd (fun m σ=>∃ j:Nat,j<=kids.length/\m=kids.length - j/\σ.t 2=.bx 2 0/\σ.t 3=.bx 3 0/\σ.b 2=some (.box [.sl 3 (p.types.map MType.enc),.sl 6 (p.nodes.map MNode.enc)])/\σ.b 3=some (.box [.s (.int .i64 k0),.s (.int .i64 at_),.s (.int .i64 n),.s (.string s),xV kids,.sl 1 (pats.map MPat.enc)]) /\
     σ.t 44=xV kids/\σ.t 45=.s (.int .i64 kids.length)/\σ.t 46=.s (.int .i64 j)/\∀ x∈kids.take j,(decide (0<=x)&&decide (x<(p.nodes.length:Int)))=true) kids.length ⟨0,by omega,by omega,?_⟩ ?_
     ·simp only [go_sem,simprocAttr,Int.natCast_zero,hk0]
      all_goals simp
     ·rintro m σ ⟨j,hj,rfl,g2,g3,gb2,gb3,g44,g45,g46,hno⟩ K' hK
      by_cases hlt:j<kids.length
      ·have hx:=xb iE kids j hlt
       (have hWf:=w10 @hk0 @g2 @g3 @gb2 @gb3 @g44 @g45 @g46 @hx @xr;repeat' (first|refine zS ?_|refine zI ?_ ?_|exact zF0|refine zD fun hb=>?_|exact zC|refine zT ?_|fail))
       ·refine sB ?_
        unfold x4;rw [wW hlt hb];rfl
       ·refine hK (kids.length - (j+1)) _ (by omega) ⟨j+1,by omega,rfl,?_⟩
        simp only [go_sem,simprocAttr,g2,g3,gb2,gb3,g44,g45,Int.natCast_succ];exact xS hlt hno (wZ (by omega) (by omega))
      ·obtain rfl:j=kids.length:=by omega
       have hin:inB p.nodes kids=true:=x8 hno;clear hno hK
       (have hWf:=w8 @hk0 @g2 @g3 @gb2 @gb3 @g44 @g45 @g46;repeat' (first|refine zS ?_|refine zI ?_ ?_|((with_reducible apply xc);refine zG (xY _) ?_)|((with_reducible apply xf);refine xe (xY _) ?_)|refine zK (xJ s hsz) ?_|refine zK (uB s) ?_|exact zF0|refine zD fun hb=>?_|exact zC|refine zT ?_|fail))
       all_goals
        (try clear hop hsp)
        (try clear hK)
        refine sB ?_;rw [Bool.eq_iff_iff,xN];have hpa0:=@pats0 pats;simp only [xQ,ha,yd] at *
        first|(simp_all;done)|grind|(constructor<;>intro hh<;>grind))
theorem ZU(p:MProgram)(kind:Int)(hkd:(kind=11/\arI kind=2)\/(kind=12/\arI kind=0)\/(kind=14/\arI kind=1))(at_ n:Int)(s:ByteArray)(kids:List Int)(pats:List MPat)(hkl:kids.length<=1048576)(hpl:pats.length<=1048576)(hsz:s.size<=maxLen)(hop:∀ q∈pats,q.ok)(hsp:smS MPat.sm pats) :
  FT 127 [.ag p.enc,.ag (MNode.mk kind at_ n s kids pats).enc] (fun r _=>r=.s (.bool (x4 p.nodes ⟨kind,at_,n,s,kids,pats⟩))):=by
 obtain ⟨k0,hk0⟩:∃ k0:Int,k0=kind:=⟨_,rfl⟩;rcases hkd with ⟨rfl,ha⟩|⟨rfl,ha⟩|⟨rfl,ha⟩
 all_goals
  refine FI (PMr [15,24]) Tryz.func127 Tryz.ntmps127 [(15,26,[],[],(lin [] [0,1,2,3,4,5,6,7,8,9,10,11,12,13,14,15,16,17,18,19,20,21,22,23,24,25])),(24,15,[],[],(lin [] [0,1,2,3,4,5,6,7,8,9,10,11,12,13,14])),(26,11,[],[],(lin [] [0,1,2,3,4,5,6,7,8,9,10]))] rfl rfl ?_
  (have hWf:=w3 @MNode.enc_eq @MProgram.enc_eq @ha;repeat' (first|refine zS ?_|refine zI ?_ ?_|exact zF0|refine zD fun hb=>?_|exact zC|refine zT ?_|fail))
  all_goals first
  | (
    (try clear hop hsp)
    (try clear hK)
    refine sB ?_;rw [Bool.eq_iff_iff,xN];have hpa0:=@pats0 pats;simp only [xQ,ha,yd] at *
    first|(simp_all;done)|grind|(constructor<;>intro hh<;>grind))
  | (refine xd (fun m σ=>∃ j:Nat,j<=kids.length/\m=kids.length - j/\σ.t 2=.bx 2 0/\σ.t 3=.bx 3 0/\σ.b 2=some (.box [.sl 3 (p.types.map MType.enc),.sl 6 (p.nodes.map MNode.enc)])/\σ.b 3=some (.box [.s (.int .i64 k0),.s (.int .i64 at_),.s (.int .i64 n),.s (.string s),xV kids,.sl 1 (pats.map MPat.enc)]) /\
     σ.t 44=xV kids/\σ.t 45=.s (.int .i64 kids.length)/\σ.t 46=.s (.int .i64 j)/\∀ x∈kids.take j,(decide (0<=x)&&decide (x<(p.nodes.length:Int)))=true) kids.length ⟨0,by omega,by omega,?_⟩ ?_
     ·simp only [go_sem,simprocAttr,Int.natCast_zero,hk0]
      all_goals simp
     ·rintro m σ ⟨j,hj,rfl,g2,g3,gb2,gb3,g44,g45,g46,hno⟩ K' hK
      by_cases hlt:j<kids.length
      ·have hx:=xb iE kids j hlt
       (have hWf:=w10 @hk0 @g2 @g3 @gb2 @gb3 @g44 @g45 @g46 @hx @xr;repeat' (first|refine zS ?_|refine zI ?_ ?_|exact zF0|refine zD fun hb=>?_|exact zC|refine zT ?_|fail))
       ·refine sB ?_
        unfold x4;rw [wW hlt hb];rfl
       ·refine hK (kids.length - (j+1)) _ (by omega) ⟨j+1,by omega,rfl,?_⟩
        simp only [go_sem,simprocAttr,g2,g3,gb2,gb3,g44,g45,Int.natCast_succ];exact xS hlt hno (wZ (by omega) (by omega))
      ·obtain rfl:j=kids.length:=by omega
       have hin:inB p.nodes kids=true:=x8 hno;clear hno hK
       (have hWf:=w8 @hk0 @g2 @g3 @gb2 @gb3 @g44 @g45 @g46;repeat' (first|refine zS ?_|refine zI ?_ ?_|((with_reducible apply xc);refine zG (xY _) ?_)|((with_reducible apply xf);refine xe (xY _) ?_)|refine zK (xJ s hsz) ?_|refine zK (uB s) ?_|exact zF0|refine zD fun hb=>?_|exact zC|refine zT ?_|fail))
       all_goals
        (try clear hop hsp)
        (try clear hK)
        refine sB ?_;rw [Bool.eq_iff_iff,xN];have hpa0:=@pats0 pats;simp only [xQ,ha,yd] at *
        first|(simp_all;done)|grind|(constructor<;>intro hh<;>grind))
theorem Q2(p:MProgram)(kind:Int)(hkd:(kind=16/\arI kind=1)\/(kind=17/\arI kind=1))(at_ n:Int)(s:ByteArray)(kids:List Int)(pats:List MPat)(hkl:kids.length<=1048576)(hpl:pats.length<=1048576)(hsz:s.size<=maxLen)(hop:∀ q∈pats,q.ok)(hsp:smS MPat.sm pats) :
  FT 127 [.ag p.enc,.ag (MNode.mk kind at_ n s kids pats).enc] (fun r _=>r=.s (.bool (x4 p.nodes ⟨kind,at_,n,s,kids,pats⟩))):=by
 obtain ⟨k0,hk0⟩:∃ k0:Int,k0=kind:=⟨_,rfl⟩;rcases hkd with ⟨rfl,ha⟩|⟨rfl,ha⟩
 all_goals
  refine FI (PMr [15,24]) Tryz.func127 Tryz.ntmps127 [(15,26,[],[],(lin [] [0,1,2,3,4,5,6,7,8,9,10,11,12,13,14,15,16,17,18,19,20,21,22,23,24,25])),(24,15,[],[],(lin [] [0,1,2,3,4,5,6,7,8,9,10,11,12,13,14])),(26,11,[],[],(lin [] [0,1,2,3,4,5,6,7,8,9,10]))] rfl rfl ?_
  (have hWf:=w3 @MNode.enc_eq @MProgram.enc_eq @ha;repeat' (first|refine zS ?_|refine zI ?_ ?_|exact zF0|refine zD fun hb=>?_|exact zC|refine zT ?_|fail))
  all_goals first
  | (
    (try clear hop hsp)
    (try clear hK)
    refine sB ?_;rw [Bool.eq_iff_iff,xN];have hpa0:=@pats0 pats;simp only [xQ,ha,yd] at *
    first|(simp_all;done)|grind|(constructor<;>intro hh<;>grind))
  | (refine xd (fun m σ=>∃ j:Nat,j<=kids.length/\m=kids.length - j/\σ.t 2=.bx 2 0/\σ.t 3=.bx 3 0/\σ.b 2=some (.box [.sl 3 (p.types.map MType.enc),.sl 6 (p.nodes.map MNode.enc)])/\σ.b 3=some (.box [.s (.int .i64 k0),.s (.int .i64 at_),.s (.int .i64 n),.s (.string s),xV kids,.sl 1 (pats.map MPat.enc)]) /\
     σ.t 44=xV kids/\σ.t 45=.s (.int .i64 kids.length)/\σ.t 46=.s (.int .i64 j)/\∀ x∈kids.take j,(decide (0<=x)&&decide (x<(p.nodes.length:Int)))=true) kids.length ⟨0,by omega,by omega,?_⟩ ?_
     ·simp only [go_sem,simprocAttr,Int.natCast_zero,hk0]
      all_goals simp
     ·rintro m σ ⟨j,hj,rfl,g2,g3,gb2,gb3,g44,g45,g46,hno⟩ K' hK
      by_cases hlt:j<kids.length
      ·have hx:=xb iE kids j hlt
       (have hWf:=w10 @hk0 @g2 @g3 @gb2 @gb3 @g44 @g45 @g46 @hx @xr;repeat' (first|refine zS ?_|refine zI ?_ ?_|exact zF0|refine zD fun hb=>?_|exact zC|refine zT ?_|fail))
       ·refine sB ?_
        unfold x4;rw [wW hlt hb];rfl
       ·refine hK (kids.length - (j+1)) _ (by omega) ⟨j+1,by omega,rfl,?_⟩
        simp only [go_sem,simprocAttr,g2,g3,gb2,gb3,g44,g45,Int.natCast_succ];exact xS hlt hno (wZ (by omega) (by omega))
      ·obtain rfl:j=kids.length:=by omega
       have hin:inB p.nodes kids=true:=x8 hno;clear hno hK
       (have hWf:=w8 @hk0 @g2 @g3 @gb2 @gb3 @g44 @g45 @g46;repeat' (first|refine zS ?_|refine zI ?_ ?_|((with_reducible apply xc);refine zG (xY _) ?_)|((with_reducible apply xf);refine xe (xY _) ?_)|refine zK (xJ s hsz) ?_|refine zK (uB s) ?_|exact zF0|refine zD fun hb=>?_|exact zC|refine zT ?_|fail))
       all_goals
        (try clear hop hsp)
        (try clear hK)
        refine sB ?_;rw [Bool.eq_iff_iff,xN];have hpa0:=@pats0 pats;simp only [xQ,ha,yd] at *
        first|(simp_all;done)|grind|(constructor<;>intro hh<;>grind))
theorem Q3(p:MProgram)(kind:Int)(hkd:(kind=18/\arI kind=2)\/(kind=19/\arI kind=2))(at_ n:Int)(s:ByteArray)(kids:List Int)(pats:List MPat)(hkl:kids.length<=1048576)(hpl:pats.length<=1048576)(hsz:s.size<=maxLen)(hop:∀ q∈pats,q.ok)(hsp:smS MPat.sm pats) :
  FT 127 [.ag p.enc,.ag (MNode.mk kind at_ n s kids pats).enc] (fun r _=>r=.s (.bool (x4 p.nodes ⟨kind,at_,n,s,kids,pats⟩))):=by
 obtain ⟨k0,hk0⟩:∃ k0:Int,k0=kind:=⟨_,rfl⟩;rcases hkd with ⟨rfl,ha⟩|⟨rfl,ha⟩
 all_goals
  refine FI (PMr [15,24]) Tryz.func127 Tryz.ntmps127 [(15,26,[],[],(lin [] [0,1,2,3,4,5,6,7,8,9,10,11,12,13,14,15,16,17,18,19,20,21,22,23,24,25])),(24,15,[],[],(lin [] [0,1,2,3,4,5,6,7,8,9,10,11,12,13,14])),(26,11,[],[],(lin [] [0,1,2,3,4,5,6,7,8,9,10]))] rfl rfl ?_
  (have hWf:=w3 @MNode.enc_eq @MProgram.enc_eq @ha;repeat' (first|refine zS ?_|refine zI ?_ ?_|exact zF0|refine zD fun hb=>?_|exact zC|refine zT ?_|fail))
  all_goals first
  | (
    (try clear hop hsp)
    (try clear hK)
    refine sB ?_;rw [Bool.eq_iff_iff,xN];have hpa0:=@pats0 pats;simp only [xQ,ha,yd] at *
    first|(simp_all;done)|grind|(constructor<;>intro hh<;>grind))
  | (refine xd (fun m σ=>∃ j:Nat,j<=kids.length/\m=kids.length - j/\σ.t 2=.bx 2 0/\σ.t 3=.bx 3 0/\σ.b 2=some (.box [.sl 3 (p.types.map MType.enc),.sl 6 (p.nodes.map MNode.enc)])/\σ.b 3=some (.box [.s (.int .i64 k0),.s (.int .i64 at_),.s (.int .i64 n),.s (.string s),xV kids,.sl 1 (pats.map MPat.enc)]) /\
     σ.t 44=xV kids/\σ.t 45=.s (.int .i64 kids.length)/\σ.t 46=.s (.int .i64 j)/\∀ x∈kids.take j,(decide (0<=x)&&decide (x<(p.nodes.length:Int)))=true) kids.length ⟨0,by omega,by omega,?_⟩ ?_
     ·simp only [go_sem,simprocAttr,Int.natCast_zero,hk0]
      all_goals simp
     ·rintro m σ ⟨j,hj,rfl,g2,g3,gb2,gb3,g44,g45,g46,hno⟩ K' hK
      by_cases hlt:j<kids.length
      ·have hx:=xb iE kids j hlt
       (have hWf:=w10 @hk0 @g2 @g3 @gb2 @gb3 @g44 @g45 @g46 @hx @xr;repeat' (first|refine zS ?_|refine zI ?_ ?_|exact zF0|refine zD fun hb=>?_|exact zC|refine zT ?_|fail))
       ·refine sB ?_
        unfold x4;rw [wW hlt hb];rfl
       ·refine hK (kids.length - (j+1)) _ (by omega) ⟨j+1,by omega,rfl,?_⟩
        simp only [go_sem,simprocAttr,g2,g3,gb2,gb3,g44,g45,Int.natCast_succ];exact xS hlt hno (wZ (by omega) (by omega))
      ·obtain rfl:j=kids.length:=by omega
       have hin:inB p.nodes kids=true:=x8 hno;clear hno hK
       (have hWf:=w8 @hk0 @g2 @g3 @gb2 @gb3 @g44 @g45 @g46;repeat' (first|refine zS ?_|refine zI ?_ ?_|((with_reducible apply xc);refine zG (xY _) ?_)|((with_reducible apply xf);refine xe (xY _) ?_)|refine zK (xJ s hsz) ?_|refine zK (uB s) ?_|exact zF0|refine zD fun hb=>?_|exact zC|refine zT ?_|fail))
       all_goals
        (try clear hop hsp)
        (try clear hK)
        refine sB ?_;rw [Bool.eq_iff_iff,xN];have hpa0:=@pats0 pats;simp only [xQ,ha,yd] at *
        first|(simp_all;done)|grind|(constructor<;>intro hh<;>grind))
theorem l04Node_8(p:MProgram)(kind:Int)(hkd:(kind=8/\arI kind=2))(at_ n:Int)(s:ByteArray)(kids:List Int)(pats:List MPat)(hkl:kids.length<=1048576)(hpl:pats.length<=1048576)(hsz:s.size<=maxLen)(hop:∀ q∈pats,q.ok)(hsp:smS MPat.sm pats) :
  FT 127 [.ag p.enc,.ag (MNode.mk kind at_ n s kids pats).enc] (fun r _=>r=.s (.bool (x4 p.nodes ⟨kind,at_,n,s,kids,pats⟩))):=by
 obtain ⟨k0,hk0⟩:∃ k0:Int,k0=kind:=⟨_,rfl⟩;rcases hkd with ⟨rfl,ha⟩
 all_goals
  refine FI (PMr [15,24]) Tryz.func127 Tryz.ntmps127 [(15,26,[],[],(lin [] [0,1,2,3,4,5,6,7,8,9,10,11,12,13,14,15,16,17,18,19,20,21,22,23,24,25])),(24,15,[],[],(lin [] [0,1,2,3,4,5,6,7,8,9,10,11,12,13,14])),(26,11,[],[],(lin [] [0,1,2,3,4,5,6,7,8,9,10]))] rfl rfl ?_
  (have hWf:=w3 @MNode.enc_eq @MProgram.enc_eq @ha;repeat' (first|refine zS ?_|refine zI ?_ ?_|exact zF0|refine zD fun hb=>?_|exact zC|refine zT ?_|fail))
  all_goals first
  | (
    (try clear hop hsp)
    (try clear hK)
    refine sB ?_;rw [Bool.eq_iff_iff,xN];have hpa0:=@pats0 pats;simp only [xQ,ha,yd] at *
    first|(simp_all;done)|grind|(constructor<;>intro hh<;>grind))
  | (refine xd (fun m σ=>∃ j:Nat,j<=kids.length/\m=kids.length - j/\σ.t 2=.bx 2 0/\σ.t 3=.bx 3 0/\σ.b 2=some (.box [.sl 3 (p.types.map MType.enc),.sl 6 (p.nodes.map MNode.enc)])/\σ.b 3=some (.box [.s (.int .i64 k0),.s (.int .i64 at_),.s (.int .i64 n),.s (.string s),xV kids,.sl 1 (pats.map MPat.enc)]) /\
     σ.t 44=xV kids/\σ.t 45=.s (.int .i64 kids.length)/\σ.t 46=.s (.int .i64 j)/\∀ x∈kids.take j,(decide (0<=x)&&decide (x<(p.nodes.length:Int)))=true) kids.length ⟨0,by omega,by omega,?_⟩ ?_
     ·simp only [go_sem,simprocAttr,Int.natCast_zero,hk0]
      all_goals simp
     ·rintro m σ ⟨j,hj,rfl,g2,g3,gb2,gb3,g44,g45,g46,hno⟩ K' hK
      by_cases hlt:j<kids.length
      ·have hx:=xb iE kids j hlt
       (have hWf:=w10 @hk0 @g2 @g3 @gb2 @gb3 @g44 @g45 @g46 @hx @xr;repeat' (first|refine zS ?_|refine zI ?_ ?_|exact zF0|refine zD fun hb=>?_|exact zC|refine zT ?_|fail))
       ·refine sB ?_
        unfold x4;rw [wW hlt hb];rfl
       ·refine hK (kids.length - (j+1)) _ (by omega) ⟨j+1,by omega,rfl,?_⟩
        simp only [go_sem,simprocAttr,g2,g3,gb2,gb3,g44,g45,Int.natCast_succ];exact xS hlt hno (wZ (by omega) (by omega))
      ·obtain rfl:j=kids.length:=by omega
       have hin:inB p.nodes kids=true:=x8 hno;clear hno hK;cases kids with
       | nil=>
        have hin:inB p.nodes []=true:=rfl
        (have hWf:=w8 @hk0 @g2 @g3 @gb2 @gb3 @g44 @g45 @g46;repeat' (first|refine zS ?_|refine zI ?_ ?_|((with_reducible apply xc);refine zG (xY _) ?_)|((with_reducible apply xf);refine xe (xY _) ?_)|refine zK (xJ s hsz) ?_|exact zF0|refine zD fun hb=>?_|exact zC|refine zT ?_|fail))
        all_goals
         (try clear hop hsp)
         (try clear hK)
         refine sB ?_;rw [Bool.eq_iff_iff,xN];have hpa0:=@pats0 pats;simp only [xQ,ha,yd] at *
         first|(simp_all;done)|grind|(constructor<;>intro hh<;>grind)
       | cons z l=>
        have hz:=List.all_eq_true.1 hin z (by simp)
        simp only [Bool.and_eq_true,decide_eq_true_eq] at hz
        obtain ⟨q,rfl⟩:∃ q:Nat,z=(q:Int):=⟨z.toNat,by omega⟩
        have hq:q<p.nodes.length:=by omega
        have hn:=xb MNode.enc p.nodes q hq;have hne:=MNode.enc_eq p.nodes[q];have hkk:=fun kd=>Wt (nodes:=p.nodes) (l:=(q:Int)::l) (by simp) hq rfl kd
        have h1k:(((l.length+1:Nat):Int)==1)=decide (l.length+1=1):=by rw [Bool.eq_iff_iff];simp only [beq_iff_eq,decide_eq_true_eq];omega
        cases h2:(((l.length+1:Nat):Int) != 2)
        all_goals
         (have hWf:=w10 @hk0 @g2 @g3 @gb2 @gb3 @g44 @g45 @g46 @hn (ai @hne<|ai @xr<|@h2);repeat' (first|refine zS ?_|refine zI ?_ ?_|((with_reducible apply xc);refine zG (xY _) ?_)|((with_reducible apply xf);refine xe (xY _) ?_)|refine zK (xJ s hsz) ?_|exact zF0|refine zD fun hb=>?_|exact zC|refine zT ?_|fail))
         all_goals
          (try clear hop hsp)
          (try clear hK)
          refine sB ?_;rw [Bool.eq_iff_iff,xN];have hpa0:=@pats0 pats;simp only [xQ,ha,yd,hkk,List.length_cons] at *
          first|(simp_all;done)|grind|(constructor<;>intro hh<;>grind))
theorem l04Node_4(p:MProgram)(kind:Int)(hkd:(kind=4/\arI kind = -1))(at_ n:Int)(s:ByteArray)(kids:List Int)(pats:List MPat)(hkl:kids.length<=1048576)(hpl:pats.length<=1048576)(hsz:s.size<=maxLen)(hop:∀ q∈pats,q.ok)(hsp:smS MPat.sm pats) :
  FT 127 [.ag p.enc,.ag (MNode.mk kind at_ n s kids pats).enc] (fun r _=>r=.s (.bool (x4 p.nodes ⟨kind,at_,n,s,kids,pats⟩))):=by
 obtain ⟨k0,hk0⟩:∃ k0:Int,k0=kind:=⟨_,rfl⟩;rcases hkd with ⟨rfl,ha⟩
 all_goals
  refine FI (PMr [15,24]) Tryz.func127 Tryz.ntmps127 [(15,26,[],[],(lin [] [0,1,2,3,4,5,6,7,8,9,10,11,12,13,14,15,16,17,18,19,20,21,22,23,24,25])),(24,15,[],[],(lin [] [0,1,2,3,4,5,6,7,8,9,10,11,12,13,14])),(26,11,[],[],(lin [] [0,1,2,3,4,5,6,7,8,9,10]))] rfl rfl ?_
  (have hWf:=w3 @MNode.enc_eq @MProgram.enc_eq @ha;repeat' (first|refine zS ?_|refine zI ?_ ?_|exact zF0|refine zD fun hb=>?_|exact zC|refine zT ?_|fail))
  all_goals first
  | (
    (try clear hop hsp)
    (try clear hK)
    refine sB ?_;rw [Bool.eq_iff_iff,xN];have hpa0:=@pats0 pats;simp only [xQ,ha,yd] at *
    first|(simp_all;done)|grind|(constructor<;>intro hh<;>grind))
  | (refine xd (fun m σ=>∃ j:Nat,j<=kids.length/\m=kids.length - j/\σ.t 2=.bx 2 0/\σ.t 3=.bx 3 0/\σ.b 2=some (.box [.sl 3 (p.types.map MType.enc),.sl 6 (p.nodes.map MNode.enc)])/\σ.b 3=some (.box [.s (.int .i64 k0),.s (.int .i64 at_),.s (.int .i64 n),.s (.string s),xV kids,.sl 1 (pats.map MPat.enc)]) /\
     σ.t 44=xV kids/\σ.t 45=.s (.int .i64 kids.length)/\σ.t 46=.s (.int .i64 j)/\∀ x∈kids.take j,(decide (0<=x)&&decide (x<(p.nodes.length:Int)))=true) kids.length ⟨0,by omega,by omega,?_⟩ ?_
     ·simp only [go_sem,simprocAttr,Int.natCast_zero,hk0]
      all_goals simp
     ·rintro m σ ⟨j,hj,rfl,g2,g3,gb2,gb3,g44,g45,g46,hno⟩ K' hK
      by_cases hlt:j<kids.length
      ·have hx:=xb iE kids j hlt
       (have hWf:=w10 @hk0 @g2 @g3 @gb2 @gb3 @g44 @g45 @g46 @hx @xr;repeat' (first|refine zS ?_|refine zI ?_ ?_|exact zF0|refine zD fun hb=>?_|exact zC|refine zT ?_|fail))
       ·refine sB ?_
        unfold x4;rw [wW hlt hb];rfl
       ·refine hK (kids.length - (j+1)) _ (by omega) ⟨j+1,by omega,rfl,?_⟩
        simp only [go_sem,simprocAttr,g2,g3,gb2,gb3,g44,g45,Int.natCast_succ];exact xS hlt hno (wZ (by omega) (by omega))
      ·obtain rfl:j=kids.length:=by omega
       have hin:inB p.nodes kids=true:=x8 hno;clear hno hK;cases kids with
       | nil=>
        have hin:inB p.nodes []=true:=rfl;cases hp0:((pats.length:Int)==0)
        all_goals
         (have hWf:=w9 @hk0 @g2 @g3 @gb2 @gb3 @g44 @g45 @g46 @hp0;repeat' (first|refine zS ?_|refine zI ?_ ?_|((with_reducible apply xc);refine zG (yi s hsz 0 _) ?_)|((with_reducible apply xf);refine xe (yi s hsz 0 _) ?_)|exact zF0|refine zD fun hb=>?_|exact zC|refine zT ?_|fail))
         all_goals
          (try clear hop hsp)
          (try clear hK)
          refine sB ?_;rw [Bool.eq_iff_iff,xN];have hpa0:=@pats0 pats;simp only [xQ,ha,yd] at *
          first|(simp_all;done)|grind|(constructor<;>intro hh<;>grind)
       | cons z l=>
        have hz:=List.all_eq_true.1 hin z (by simp)
        simp only [Bool.and_eq_true,decide_eq_true_eq] at hz
        obtain ⟨q,rfl⟩:∃ q:Nat,z=(q:Int):=⟨z.toNat,by omega⟩
        have hq:q<p.nodes.length:=by omega
        have hn:=xb MNode.enc p.nodes q hq;have hne:=MNode.enc_eq p.nodes[q];have hkk:=fun kd=>Wt (nodes:=p.nodes) (l:=(q:Int)::l) (by simp) hq rfl kd
        have h1k:(((l.length+1:Nat):Int)==1)=decide (l.length+1=1):=by rw [Bool.eq_iff_iff];simp only [beq_iff_eq,decide_eq_true_eq];omega
        cases hp0:((pats.length:Int)==0)
        all_goals
         cases h1:(((l.length+1:Nat):Int)==1)
         all_goals
          (have hWf:=w10 @hk0 @g2 @g3 @gb2 @gb3 @g44 @g45 @g46 @hn (ai @hne<|ai @xr<|ai @hp0<|@h1);repeat' (first|refine zS ?_|refine zI ?_ ?_|((with_reducible apply xc);refine zG (yi s hsz (l.length+1) _) ?_)|((with_reducible apply xf);refine xe (yi s hsz (l.length+1) _) ?_)|exact zF0|refine zD fun hb=>?_|exact zC|refine zT ?_|fail))
          all_goals
           (try clear hop hsp)
           (try clear hK)
           refine sB ?_;rw [Bool.eq_iff_iff,xN];have hpa0:=@pats0 pats;simp only [xQ,ha,yd,hkk,List.length_cons,h1k] at *
           first|(simp_all;done)|grind|(constructor<;>intro hh<;>grind))
theorem xcL(p:MProgram)(kind:Int)(hkd:(kind=13/\arI kind = -1))(at_ n:Int)(s:ByteArray)(kids:List Int)(pats:List MPat)(hkl:kids.length<=1048576)(hpl:pats.length<=1048576)(hsz:s.size<=maxLen)(hop:∀ q∈pats,q.ok)(hsp:smS MPat.sm pats) :
  FT 127 [.ag p.enc,.ag (MNode.mk kind at_ n s kids pats).enc] (fun r _=>r=.s (.bool (x4 p.nodes ⟨kind,at_,n,s,kids,pats⟩))):=by
 obtain ⟨k0,hk0⟩:∃ k0:Int,k0=kind:=⟨_,rfl⟩;rcases hkd with ⟨rfl,ha⟩
 all_goals
  refine FI (PMr [15,24]) Tryz.func127 Tryz.ntmps127 [(15,26,[],[],(lin [] [0,1,2,3,4,5,6,7,8,9,10,11,12,13,14,15,16,17,18,19,20,21,22,23,24,25])),(24,15,[],[],(lin [] [0,1,2,3,4,5,6,7,8,9,10,11,12,13,14])),(26,11,[],[],(lin [] [0,1,2,3,4,5,6,7,8,9,10]))] rfl rfl ?_
  (have hWf:=w3 @MNode.enc_eq @MProgram.enc_eq @ha;repeat' (first|refine zS ?_|refine zI ?_ ?_|exact zF0|refine zD fun hb=>?_|exact zC|refine zT ?_|fail))
  all_goals first
  | (
    (try clear hop hsp)
    (try clear hK)
    refine sB ?_;rw [Bool.eq_iff_iff,xN];have hpa0:=@pats0 pats;simp only [xQ,ha,yd] at *
    first|(simp_all;done)|grind|(constructor<;>intro hh<;>grind))
  | (refine xd (fun m σ=>∃ j:Nat,j<=kids.length/\m=kids.length - j/\σ.t 2=.bx 2 0/\σ.t 3=.bx 3 0/\σ.b 2=some (.box [.sl 3 (p.types.map MType.enc),.sl 6 (p.nodes.map MNode.enc)])/\σ.b 3=some (.box [.s (.int .i64 k0),.s (.int .i64 at_),.s (.int .i64 n),.s (.string s),xV kids,.sl 1 (pats.map MPat.enc)]) /\
     σ.t 44=xV kids/\σ.t 45=.s (.int .i64 kids.length)/\σ.t 46=.s (.int .i64 j)/\∀ x∈kids.take j,(decide (0<=x)&&decide (x<(p.nodes.length:Int)))=true) kids.length ⟨0,by omega,by omega,?_⟩ ?_
     ·simp only [go_sem,simprocAttr,Int.natCast_zero,hk0]
      all_goals simp
     ·rintro m σ ⟨j,hj,rfl,g2,g3,gb2,gb3,g44,g45,g46,hno⟩ K' hK
      by_cases hlt:j<kids.length
      ·have hx:=xb iE kids j hlt
       (have hWf:=w10 @hk0 @g2 @g3 @gb2 @gb3 @g44 @g45 @g46 @hx @xr;repeat' (first|refine zS ?_|refine zI ?_ ?_|exact zF0|refine zD fun hb=>?_|exact zC|refine zT ?_|fail))
       ·refine sB ?_
        unfold x4;rw [wW hlt hb];rfl
       ·refine hK (kids.length - (j+1)) _ (by omega) ⟨j+1,by omega,rfl,?_⟩
        simp only [go_sem,simprocAttr,g2,g3,gb2,gb3,g44,g45,Int.natCast_succ];exact xS hlt hno (wZ (by omega) (by omega))
      ·obtain rfl:j=kids.length:=by omega
       have hin:inB p.nodes kids=true:=x8 hno;clear hno hK
       (have hWf:=w8 @hk0 @g2 @g3 @gb2 @gb3 @g44 @g45 @g46;repeat' (first|refine zS ?_|refine zI ?_ ?_|((with_reducible apply xc);refine zG (xY _) ?_)|((with_reducible apply xf);refine xe (xY _) ?_)|exact zF0|refine zD fun hb=>?_|exact zC|refine zT ?_|fail))
       all_goals first
       | (
        (try clear hop hsp)
        (try clear hK)
        refine sB ?_;rw [Bool.eq_iff_iff,xN];have hpa0:=@pats0 pats;simp only [xQ,ha,yd] at *
        first|(simp_all;done)|grind|(constructor<;>intro hh<;>grind))
       | (refine xd (fun m σ=>∃ j:Nat,j<=pats.length/\m=pats.length - j/\σ.t 2=.bx 2 0/\σ.t 3=.bx 3 0/\σ.b 2=some (.box [.sl 3 (p.types.map MType.enc),.sl 6 (p.nodes.map MNode.enc)])/\σ.b 3=some (.box [.s (.int .i64 k0),.s (.int .i64 at_),.s (.int .i64 n),.s (.string s),xV kids,.sl 1 (pats.map MPat.enc)]) /\
           σ.t 158=.sl 1 (pats.map MPat.enc)/\σ.t 159=.s (.int .i64 pats.length)/\σ.t 160=.s (.int .i64 j)/\∀ q∈pats.take j,patM q.nodes=true) pats.length ⟨0,by omega,by omega,?_⟩ ?_
          ·simp only [go_sem,simprocAttr,hk0,g2,g3,gb2,gb3,Int.natCast_zero]
           all_goals simp
          ·rintro m σ ⟨j,hj,rfl,e2,e3,eb2,eb3,e158,e159,e160,hno⟩ K'' hK
           by_cases hlt:j<pats.length
           ·have hx:=xb MPat.enc pats j hlt
            have he:=MPat.enc_eq pats[j];have hpc:=Yo pats[j].nodes (hop _ (List.getElem_mem hlt)) (hsp.2 _ (List.getElem_mem hlt));cases hpm:patM pats[j].nodes with
            | false=>
             rw [hpm] at hpc
             (have hWf:=w10 @hk0 @e2 @e3 @eb2 @eb3 @e158 @e159 @e160 @hx @he;repeat' (first|refine zS ?_|refine zI ?_ ?_|refine zK hpc ?_|exact zF0|refine zD fun hb=>?_|exact zC|refine zT ?_|fail))
             refine sB ?_;unfold x4;rw [yZ (p:=fun q:MPat=>patM q.nodes) hlt hpm];simp
            | true=>
             rw [hpm] at hpc
             (have hWf:=w10 @hk0 @e2 @e3 @eb2 @eb3 @e158 @e159 @e160 @hx @he;repeat' (first|refine zS ?_|refine zI ?_ ?_|refine zK hpc ?_|exact zF0|refine zD fun hb=>?_|exact zC|refine zT ?_|fail))
             refine hK (pats.length - (j+1)) _ (by omega) ⟨j+1,by omega,rfl,?_⟩
             simp only [go_sem,simprocAttr,e2,e3,eb2,eb3,e158,e159,Int.natCast_succ];exact xS hlt hno hpm
           ·obtain rfl:j=pats.length:=by omega
            have hpa:=x8 (p:=fun q:MPat=>patM q.nodes) hno
            clear hno hK
            (have hWf:=w8 @hk0 @e2 @e3 @eb2 @eb3 @e158 @e159 @e160;repeat' (first|refine zS ?_|refine zI ?_ ?_|exact zF0|refine zD fun hb=>?_|exact zC|refine zT ?_|fail))
            all_goals
             (try clear hop hsp)
             (try clear hK)
             refine sB ?_;rw [Bool.eq_iff_iff,xN];have hpa0:=@pats0 pats;simp only [xQ,ha,yd,hpa] at *
             first|(simp_all;done)|grind|(constructor<;>intro hh<;>grind)))
end
end Go.Proofs.YtmnokalddmlogaaGreat
