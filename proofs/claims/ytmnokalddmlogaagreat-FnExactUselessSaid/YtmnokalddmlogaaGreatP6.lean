/- Parts of the proof. -/
import Derived.Test.YtmnokalddmlogaaGreatP5
set_option linter.unusedSimpArgs false
set_option linter.unusedVariables false
set_option maxRecDepth 100000
set_option maxHeartbeats 8000000
namespace Go.Proofs.YtmnokalddmlogaaGreat
section
attribute [local go_sem] List.length_set List.set_set
open Go.RowKit Go.ChangeShapes Go.WideShapes
structure DPNode where
 kind:Int
 n:Int
 s:ByteArray
 kids:List Int
def DPNode.enc(x:DPNode):List D:=[.s (.int .i64 x.kind),.s (.int .i64 x.n),.s (.string x.s),.sl 1 (x.kids.map iE)]
theorem DPNode.enc_eq(x:DPNode):x.enc=[.s (.int .i64 x.kind),.s (.int .i64 x.n),.s (.string x.s),.sl 1 (x.kids.map iE)]:=rfl
def DPNode.own(x:DPNode):List D:=[.s (.int .i64 x.kind),.s (.int .i64 x.n),.s (.string x.s),.osl 3 1 (x.kids.map iE)]
theorem DPNode.own_eq(x:DPNode):x.own=[.s (.int .i64 x.kind),.s (.int .i64 x.n),.s (.string x.s),.osl 3 1 (x.kids.map iE)]:=rfl
theorem DPNode.frz_eq(x:DPNode):frzL x.own=x.enc:=by
 simp only [DPNode.own_eq,DPNode.enc_eq,frzL,frz,x9 iE_frz]
def DPNode.ok(x:DPNode):Prop:=I64 x.kind/\I64 x.n/\x.s.size<=maxLen/\(∀ y∈x.kids,I64 y)
def DPNode.sm(x:DPNode):Prop:=x.s.size<=1048576/\smS (fun _:Int=>True) x.kids
def DPNode.cnt(x:DPNode):Nat:=1+1+1+cnts (fun _:Int=>1) x.kids
def DPNode.mark(k:Int)(x:DPNode):DPNode:=⟨k,(k+1),mkB ((k+1)+1),marks (fun _:Int=>1) (fun k _=>k) (((k+1)+1)+1) x.kids⟩
theorem DPNode.cnt_eq(x:DPNode):x.cnt=1+1+1+cnts (fun _:Int=>1) x.kids:=rfl
theorem DPNode.pure(x:DPNode):∀ d∈x.own,Pure d:=by
 simp only [DPNode.own_eq,List.forall_mem_cons,List.not_mem_nil,false_imp_iff,implies_true,and_true];exact ⟨.s _,.s _,.s _,xP VV _ _ _⟩
theorem DPNode.pureS(e k:Nat)(xs:List DPNode):Pure (.osl e k (xs.map DPNode.own))=True:=eq_true (xP DPNode.pure e k xs)
attribute [go_sem] DPNode.pureS
theorem QC(x:DPNode)(hs:x.sm):FT 136 [.ag x.enc] (fun r _=>r=.ag x.own):=by
 refine FI PM Tryz.func136 Tryz.ntmps136 [] rfl rfl ?_
 (have hWf:=w2 @DPNode.enc_eq @DPNode.own_eq;repeat' (first|refine zS ?_|refine zI ?_ ?_|refine zK (xa3 x.kids (hs.2)) ?_|exact zF0|refine zD fun hb=>?_|exact zC|refine zT ?_|fail))
theorem xcB(xs:List DPNode)(hs:smS DPNode.sm xs):FT 85 [.sl 4 (xs.map DPNode.enc)] (fun r _=>r=.osl 59 4 (xs.map DPNode.own)):=by
 have hl:=hs.1;refine FI PM Tryz.func85 Tryz.ntmps85 [] rfl rfl ?_
 (have hWf:=f0;repeat' (first|refine zS ?_|refine zI ?_ ?_|exact zF0|refine zD fun hb=>?_|exact zC|refine zT ?_|fail))
 refine xd (fun n σ=>∃ k:Nat,k<=xs.length/\n=xs.length - k/\σ.t 0=.sl 4 (xs.map DPNode.enc)/\σ.t 3=.bs 7 4 xs.length/\σ.t 4=.s (.int .i64 k)/\σ.b 7=some (.arr 59 4 (zn DPNode.own [.s (.int .i64 0),.s (.int .i64 0),.s (.string ⟨#[]⟩),.nil] xs k))) xs.length ⟨0,by omega,by omega,?_⟩ ?_
 ·simp only [go_sem,simprocAttr,z8,Int.natCast_zero]
 ·rintro n σ ⟨k,hk,rfl,h0,h3,h4,h7⟩ K' hK
  by_cases hlt:k<xs.length
  ·have hx:=xb DPNode.enc xs k hlt
   have he:=DPNode.enc_eq xs[k];have hpl:=wO (f:=DPNode.own) (z:=[.s (.int .i64 0),.s (.int .i64 0),.s (.string ⟨#[]⟩),.nil]) (Nat.le_of_lt hlt);have hg:=wM (f:=DPNode.own) (z:=[.s (.int .i64 0),.s (.int .i64 0),.s (.string ⟨#[]⟩),.nil]) hlt;have hst:=wP (f:=DPNode.own) (z:=[.s (.int .i64 0),.s (.int .i64 0),.s (.string ⟨#[]⟩),.nil]) hlt;rw [DPNode.own_eq] at hst
   (have hWf:=w10 @h0 @h3 @h4 @h7 @hx @he @DPNode.own_eq @hpl @hg @hst;repeat' (first|refine zS ?_|refine zI ?_ ?_|((with_reducible apply xc);refine zG (QC xs[k] (hs.2 _ (List.getElem_mem hlt))) ?_)|((with_reducible apply xf);refine xe (QC xs[k] (hs.2 _ (List.getElem_mem hlt))) ?_)|exact zF0|refine zD fun hb=>?_|exact zC|refine zT ?_|fail))
   refine hK (xs.length - (k+1)) _ (by omega) ⟨k+1,by omega,rfl,?_⟩
   simp only [go_sem,simprocAttr,h0,h3,h4,h7,Int.natCast_succ]
  ·obtain rfl:k=xs.length:=by omega
   rw [wL] at h7
   (have hWf:=w4 @h0 @h3 @h4 @h7;repeat' (first|refine zS ?_|refine zI ?_ ?_|exact zF0|refine zD fun hb=>?_|exact zC|refine zT ?_|fail))
theorem c_eqPNode(x:DPNode):FT 156 [.ag x.enc,.ag x.enc] (fun r _=>r=.s (.bool true)):=by
 refine FI PM Tryz.func156 Tryz.ntmps156 [] rfl rfl ?_
 (have hWf:=w1 @DPNode.enc_eq;repeat' (first|refine zS ?_|refine zI ?_ ?_|refine zK (Ug x.kids) ?_|exact zF0|refine zD fun hb=>?_|exact zC|refine zT ?_|fail))
theorem xcn(xs:List DPNode):FT 109 [.sl 4 (xs.map DPNode.enc),.sl 4 (xs.map DPNode.enc)] (fun r _=>r=.s (.bool true)):=by
 refine FI PM Tryz.func109 Tryz.ntmps109 [(6,8,[],[],(lin [] [0,1,2,3,4,5,6,7]))] rfl rfl ?_;refine yr 0 rfl trivial fun hlen=>?_
 simp only [List.length_map] at hlen
 (have hWf:=f0;repeat' (first|refine zS ?_|refine zI ?_ ?_|exact zF0|refine zD fun hb=>?_|exact zC|refine zT ?_|fail))
 refine xd (fun n σ=>∃ k:Nat,k<=xs.length/\n=xs.length - k/\σ.t 0=.sl 4 (xs.map DPNode.enc)/\σ.t 1=.sl 4 (xs.map DPNode.enc)/\σ.t 5=.s (.int .i64 k)) xs.length ⟨0,by omega,by omega,?_⟩ ?_
 ·simp only [go_sem,simprocAttr,Int.natCast_zero]
 ·rintro n σ ⟨k,hk,rfl,h0,h1,h5⟩ K' hK
  by_cases hlt:k<xs.length
  ·have hx:=xb DPNode.enc xs k hlt
   have he:=DPNode.enc_eq xs[k]
   (have hWf:=w5 @h0 @h1 @h5 @hx @he;repeat' (first|refine zS ?_|refine zI ?_ ?_|refine zK (c_eqPNode xs[k]) ?_|exact zF0|refine zD fun hb=>?_|exact zC|refine zT ?_|fail))
   all_goals
    refine hK (xs.length - (k+1)) _ (by omega) ⟨k+1,by omega,rfl,?_⟩
    simp only [go_sem,simprocAttr,h0,h1,h5,Int.natCast_succ]
  ·(have hWf:=w3 @h0 @h1 @h5;repeat' (first|refine zS ?_|refine zI ?_ ?_|exact zF0|refine zD fun hb=>?_|exact zC|refine zT ?_|fail))
theorem ZD(xs:List DPNode)(hs:smS DPNode.sm xs)(k:Int)(h0:0<=k)(hk:k+cnts DPNode.cnt xs<=4611686018427387904):FT 57 [.osl 59 4 (xs.map DPNode.own),.s (.int .i64 k)] (fun r o=>r=.s (.int .i64 (k+cnts DPNode.cnt xs))/\o=[.osl 59 4 ((marks DPNode.cnt DPNode.mark k xs).map DPNode.own),.un]):=by
 refine FI PM Tryz.func57 Tryz.ntmps57 [] rfl rfl ?_
 (have hWf:=f0;repeat' (first|refine zS ?_|refine zI ?_ ?_|exact zF0|refine zD fun hb=>?_|exact zC|refine zT ?_|fail))
 refine Xw (fun n σ=>∃ i:Nat,i<=xs.length/\n=xs.length - i/\σ.t 0=.bs 900000 4 xs.length/\σ.t 1=.s (.int .i64 (k+cnts DPNode.cnt (xs.take i)))/\σ.t 5=.s (.int .i64 i)/\σ.b 900000=some (.arr 59 4 ((stM DPNode.cnt DPNode.mark k xs i).map DPNode.own))) xs.length ⟨0,by omega,by omega,?_⟩ ?_
 ·simp only [go_sem,simprocAttr,Int.natCast_zero,ux,List.take_zero,cnts,Int.add_zero]
 ·rintro n σ ⟨i,hi,rfl,h0,h1,h5,h9⟩ K' hK
  by_cases hlt:i<xs.length
  ·have hc:=zt (c:=DPNode.cnt) hlt
   have hc':=uE (c:=DPNode.cnt) xs (i+1);have hx:=vA (c:=DPNode.cnt) (m:=DPNode.mark) k hlt DPNode.own;have hpl:=vB (c:=DPNode.cnt) (m:=DPNode.mark) k (Nat.le_of_lt hlt);have hst:=uP (c:=DPNode.cnt) (m:=DPNode.mark) k hlt DPNode.own;have hgs:∀ r,(((stM DPNode.cnt DPNode.mark k xs i).map DPNode.own).set i r).getD i []=r:=fun r=>by rw [List.getD_eq_getElem?_getD,List.getElem?_set_self (by rw [List.length_map,hpl];exact hlt)];rfl
   simp only [DPNode.own_eq,DPNode.mark] at hx hst
   simp only [DPNode.cnt] at hc
   have hrow:((stM DPNode.cnt DPNode.mark k xs i).map DPNode.own)[i]?=some (DPNode.own xs[i]):=by
    have h1:i<((stM DPNode.cnt DPNode.mark k xs i).map DPNode.own).length:=by simpa [hpl] using hlt
    rw [List.getElem?_eq_getElem h1,<- ym (List.getElem?_eq_getElem h1),hx]
    rfl
   have hsx:=hs.2 _ (List.getElem_mem hlt);have hl:=hs.1
   (refine xj ?_;simp only [go_sem,simprocAttr,h0,h1,h5];(have hWf:=w3 @h0 @h1 @h5;repeat' (first|refine zY ?_|refine zI ?_ ?_|exact zF1|refine zD fun hb=>?_|exact zC|refine zT ?_|fail)))
   (refine xj ?_;simp only [go_sem,simprocAttr,h0,h1,h5];(have hWf:=w3 @h0 @h1 @h5;repeat' (first|refine zY ?_|refine zI ?_ ?_|exact zF1|refine zD fun hb=>?_|exact zC|refine zT ?_|fail)))
   (refine xj ?_;simp only [go_sem,simprocAttr,h0,h1,h5];(have hWf:=w3 @h0 @h1 @h5;repeat' (first|refine zY ?_|refine zI ?_ ?_|exact zF1|refine zD fun hb=>?_|exact zC|refine zT ?_|fail)))
   (refine xj ?_;simp only [go_sem,simprocAttr,h0,h1,h5,h9,hx,hpl,hgs,List.set_set,List.length_set,DPNode.own_eq];(have hWf:=w8 @h0 @h1 @h5 @h9 @hx @hpl @hgs @DPNode.own_eq;repeat' (first|refine zY ?_|refine zI ?_ ?_|exact zF1|refine zD fun hb=>?_|exact zC|refine zT ?_|fail)))
   (refine xj ?_;simp only [go_sem,simprocAttr,h0,h1,h5,h9,hx,hpl,hgs,List.set_set,List.length_set,DPNode.own_eq];(have hWf:=w8 @h0 @h1 @h5 @h9 @hx @hpl @hgs @DPNode.own_eq;repeat' (first|refine zY ?_|refine zI ?_ ?_|exact zF1|refine zD fun hb=>?_|exact zC|refine zT ?_|fail)))
   (refine xj ?_;simp only [go_sem,simprocAttr,h0,h1,h5,h9,hx,hpl,hgs,List.set_set,List.length_set,DPNode.own_eq];(have hWf:=w8 @h0 @h1 @h5 @h9 @hx @hpl @hgs @DPNode.own_eq;repeat' (first|refine zY ?_|refine zI ?_ ?_|exact zF1|refine zD fun hb=>?_|exact zC|refine zT ?_|fail)))
   (refine xj ?_;simp only [go_sem,simprocAttr,h0,h1,h5,h9,hx,hpl,hgs,List.set_set,List.length_set,DPNode.own_eq];(have hWf:=w8 @h0 @h1 @h5 @h9 @hx @hpl @hgs @DPNode.own_eq;repeat' (first|refine zY ?_|refine zI ?_ ?_|exact zF1|refine zD fun hb=>?_|exact zC|refine zT ?_|fail)))
   (refine xj ?_;simp only [go_sem,simprocAttr,h0,h1,h5,h9,hx,hpl,hgs,List.set_set,List.length_set,DPNode.own_eq];(have hWf:=w8 @h0 @h1 @h5 @h9 @hx @hpl @hgs @DPNode.own_eq;repeat' (first|refine zY ?_|refine zI ?_ ?_|((with_reducible apply xc);refine zG (yN (((k+(cnts DPNode.cnt (xs.take i):Nat))+1)+1) (by omega)) ?_)|((with_reducible apply xf);refine xe (yN (((k+(cnts DPNode.cnt (xs.take i):Nat))+1)+1) (by omega)) ?_)|exact zF1|refine zD fun hb=>?_|exact zC|refine zT ?_|fail)))
   (refine xj ?_;simp only [go_sem,simprocAttr,h0,h1,h5,h9,hx,hpl,hgs,List.set_set,List.length_set,DPNode.own_eq];(have hWf:=w8 @h0 @h1 @h5 @h9 @hx @hpl @hgs @DPNode.own_eq;repeat' (first|refine zY ?_|refine zI ?_ ?_|exact zF1|refine zD fun hb=>?_|exact zC|refine zT ?_|fail)))
   refine Xp 900000 i 3 1000000003 (e:=59) (k:=4) (rows:=((stM DPNode.cnt DPNode.mark k xs i).map DPNode.own).set i [.s (.int .i64 (k+(cnts DPNode.cnt (xs.take i):Nat))),.s (.int .i64 ((k+(cnts DPNode.cnt (xs.take i):Nat))+1)),.s (.string (mkB (((k+(cnts DPNode.cnt (xs.take i):Nat))+1)+1))),.osl 3 1 (xs[i].kids.map iE)]) (row:=[.s (.int .i64 (k+(cnts DPNode.cnt (xs.take i):Nat))),.s (.int .i64 ((k+(cnts DPNode.cnt (xs.take i):Nat))+1)),.s (.string (mkB (((k+(cnts DPNode.cnt (xs.take i):Nat))+1)+1))),.osl 3 1 (xs[i].kids.map iE)]) (d:=.osl 3 1 (xs[i].kids.map iE)) (by simp only [go_sem,simprocAttr,h9]) (List.getElem?_set_self (by rw [List.length_map,hpl];exact hlt)) rfl rfl (by decide) (by decide) ?_
   (have hWf:=w9 @h0 @h1 @h5 @h9 @hx @hpl @hgs @DPNode.own_eq @xk;repeat' (first|refine zS ?_|refine zI ?_ ?_|((with_reducible apply xc);refine xh (uX xs[i].kids (hsx.2).1 _ (by omega) (by omega)) ?_;rintro _ _ ⟨rfl,rfl⟩)|((with_reducible apply xf);refine xe (uX xs[i].kids (hsx.2).1 _ (by omega) (by omega)) ?_)|exact zF0|refine zD fun hb=>?_|exact zC|refine zT ?_|fail))
   refine hK (xs.length - (i+1)) _ _ (by omega) (vo 900000 1000000003 (e:=59) (k:=4) (i:=i) (j:=3) (rows:=((stM DPNode.cnt DPNode.mark k xs i).map DPNode.own).set i [.s (.int .i64 (k+(cnts DPNode.cnt (xs.take i):Nat))),.s (.int .i64 ((k+(cnts DPNode.cnt (xs.take i):Nat))+1)),.s (.string (mkB (((k+(cnts DPNode.cnt (xs.take i):Nat))+1)+1))),.osl 3 1 (xs[i].kids.map iE)]) (r:=.bs 1000000003 1 xs[i].kids.length) (d:=.osl 3 1 ((marks (fun _:Int=>1) (fun k _=>k) ((((k+(cnts DPNode.cnt (xs.take i):Nat))+1)+1)+1) xs[i].kids).map iE)) (ob:=1=1/\xs[i].kids.length<=((marks (fun _:Int=>1) (fun k _=>k) ((((k+(cnts DPNode.cnt (xs.take i):Nat))+1)+1)+1) xs[i].kids).map iE).length) ?_ ?_ ⟨rfl,by rw [List.length_map,xk];exact Nat.le_refl _⟩ rfl (by decide)) ⟨i+1,by omega,rfl,?_⟩
   ·simp only [go_sem,simprocAttr,h9,hgs]
   ·simp only [go_sem,simprocAttr,xk]
   ·simp only [go_sem,simprocAttr,h0,h1,h5,h9,Int.natCast_succ,hx,hst,hgs,List.set_set,List.set_cons_succ,List.set_cons_zero]
    exact xq (by rw [hc];push_cast;omega)
  ·obtain rfl:i=xs.length:=by omega
   rw [vz] at h9
   rw [List.take_length] at h1
   (have hWf:=w5 @h0 @h1 @h5 @h9 @xk;repeat' (first|refine zS ?_|refine zI ?_ ?_|exact zF0|refine zD fun hb=>?_|exact zC|refine zT ?_|fail))
end
section
attribute [local go_sem] List.length_set List.set_set
open Go.RowKit Go.ChangeShapes Go.WideShapes
structure MPat where
 nodes:List DPNode
def MPat.enc(x:MPat):List D:=[.sl 4 (x.nodes.map DPNode.enc)]
theorem MPat.enc_eq(x:MPat):x.enc=[.sl 4 (x.nodes.map DPNode.enc)]:=rfl
def MPat.own(x:MPat):List D:=[.osl 59 4 (x.nodes.map DPNode.own)]
theorem MPat.own_eq(x:MPat):x.own=[.osl 59 4 (x.nodes.map DPNode.own)]:=rfl
theorem MPat.frz_eq(x:MPat):frzL x.own=x.enc:=by
 simp only [MPat.own_eq,MPat.enc_eq,frzL,frz,x9 DPNode.frz_eq]
def MPat.ok(x:MPat):Prop:=(∀ y∈x.nodes,y.ok)
def MPat.sm(x:MPat):Prop:=smS DPNode.sm x.nodes
def MPat.cnt(x:MPat):Nat:=cnts DPNode.cnt x.nodes
def MPat.mark(k:Int)(x:MPat):MPat:=⟨marks DPNode.cnt DPNode.mark k x.nodes⟩
theorem MPat.cnt_eq(x:MPat):x.cnt=cnts DPNode.cnt x.nodes:=rfl
theorem MPat.pure(x:MPat):∀ d∈x.own,Pure d:=by
 simp only [MPat.own_eq,List.forall_mem_cons,List.not_mem_nil,false_imp_iff,implies_true,and_true];exact xP DPNode.pure _ _ _
theorem MPat.pureS(e k:Nat)(xs:List MPat):Pure (.osl e k (xs.map MPat.own))=True:=eq_true (xP MPat.pure e k xs)
attribute [go_sem] MPat.pureS
theorem MPat.frzS(xs:List MPat):xu (xs.map MPat.own)=xs.map MPat.enc:=x9 MPat.frz_eq xs
attribute [go_sem] MPat.frzS
theorem c_toPat(x:MPat)(hs:x.sm):FT 42 [.ag x.enc] (fun r _=>r=.ag x.own):=by
 refine FI PM Tryz.func42 Tryz.ntmps42 [] rfl rfl ?_
 (have hWf:=w2 @MPat.enc_eq @MPat.own_eq;repeat' (first|refine zS ?_|refine zI ?_ ?_|refine zK (xcB x.nodes (hs)) ?_|exact zF0|refine zD fun hb=>?_|exact zC|refine zT ?_|fail))
theorem Up(xs:List MPat)(hs:smS MPat.sm xs):FT 12 [.sl 1 (xs.map MPat.enc)] (fun r _=>r=.osl 62 1 (xs.map MPat.own)):=by
 have hl:=hs.1;refine FI PM Tryz.func12 Tryz.ntmps12 [] rfl rfl ?_
 (have hWf:=f0;repeat' (first|refine zS ?_|refine zI ?_ ?_|exact zF0|refine zD fun hb=>?_|exact zC|refine zT ?_|fail))
 refine xd (fun n σ=>∃ k:Nat,k<=xs.length/\n=xs.length - k/\σ.t 0=.sl 1 (xs.map MPat.enc)/\σ.t 3=.bs 7 1 xs.length/\σ.t 4=.s (.int .i64 k)/\σ.b 7=some (.arr 62 1 (zn MPat.own [.nil] xs k))) xs.length ⟨0,by omega,by omega,?_⟩ ?_
 ·simp only [go_sem,simprocAttr,z8,Int.natCast_zero]
 ·rintro n σ ⟨k,hk,rfl,h0,h3,h4,h7⟩ K' hK
  by_cases hlt:k<xs.length
  ·have hx:=xb MPat.enc xs k hlt
   have he:=MPat.enc_eq xs[k];have hpl:=wO (f:=MPat.own) (z:=[.nil]) (Nat.le_of_lt hlt);have hg:=wM (f:=MPat.own) (z:=[.nil]) hlt;have hst:=wP (f:=MPat.own) (z:=[.nil]) hlt;rw [MPat.own_eq] at hst
   (have hWf:=w10 @h0 @h3 @h4 @h7 @hx @he @MPat.own_eq @hpl @hg @hst;repeat' (first|refine zS ?_|refine zI ?_ ?_|((with_reducible apply xc);refine zG (c_toPat xs[k] (hs.2 _ (List.getElem_mem hlt))) ?_)|((with_reducible apply xf);refine xe (c_toPat xs[k] (hs.2 _ (List.getElem_mem hlt))) ?_)|exact zF0|refine zD fun hb=>?_|exact zC|refine zT ?_|fail))
   refine hK (xs.length - (k+1)) _ (by omega) ⟨k+1,by omega,rfl,?_⟩
   simp only [go_sem,simprocAttr,h0,h3,h4,h7,Int.natCast_succ]
  ·obtain rfl:k=xs.length:=by omega
   rw [wL] at h7
   (have hWf:=w4 @h0 @h3 @h4 @h7;repeat' (first|refine zS ?_|refine zI ?_ ?_|exact zF0|refine zD fun hb=>?_|exact zC|refine zT ?_|fail))
theorem c_eqPat(x:MPat):FT 54 [.ag x.enc,.ag x.enc] (fun r _=>r=.s (.bool true)):=by
 refine FI PM Tryz.func54 Tryz.ntmps54 [] rfl rfl ?_
 (have hWf:=w1 @MPat.enc_eq;repeat' (first|refine zS ?_|refine zI ?_ ?_|refine zK (xcn x.nodes) ?_|exact zF0|refine zD fun hb=>?_|exact zC|refine zT ?_|fail))
theorem Uh(xs:List MPat):FT 16 [.sl 1 (xs.map MPat.enc),.sl 1 (xs.map MPat.enc)] (fun r _=>r=.s (.bool true)):=by
 refine FI PM Tryz.func16 Tryz.ntmps16 [(6,8,[],[],(lin [] [0,1,2,3,4,5,6,7]))] rfl rfl ?_;refine yr 0 rfl trivial fun hlen=>?_
 simp only [List.length_map] at hlen
 (have hWf:=f0;repeat' (first|refine zS ?_|refine zI ?_ ?_|exact zF0|refine zD fun hb=>?_|exact zC|refine zT ?_|fail))
 refine xd (fun n σ=>∃ k:Nat,k<=xs.length/\n=xs.length - k/\σ.t 0=.sl 1 (xs.map MPat.enc)/\σ.t 1=.sl 1 (xs.map MPat.enc)/\σ.t 5=.s (.int .i64 k)) xs.length ⟨0,by omega,by omega,?_⟩ ?_
 ·simp only [go_sem,simprocAttr,Int.natCast_zero]
 ·rintro n σ ⟨k,hk,rfl,h0,h1,h5⟩ K' hK
  by_cases hlt:k<xs.length
  ·have hx:=xb MPat.enc xs k hlt
   have he:=MPat.enc_eq xs[k]
   (have hWf:=w5 @h0 @h1 @h5 @hx @he;repeat' (first|refine zS ?_|refine zI ?_ ?_|refine zK (c_eqPat xs[k]) ?_|exact zF0|refine zD fun hb=>?_|exact zC|refine zT ?_|fail))
   all_goals
    refine hK (xs.length - (k+1)) _ (by omega) ⟨k+1,by omega,rfl,?_⟩
    simp only [go_sem,simprocAttr,h0,h1,h5,Int.natCast_succ]
  ·(have hWf:=w3 @h0 @h1 @h5;repeat' (first|refine zS ?_|refine zI ?_ ?_|exact zF0|refine zD fun hb=>?_|exact zC|refine zT ?_|fail))
theorem YQ(xs:List MPat)(hs:smS MPat.sm xs)(k:Int)(h0:0<=k)(hk:k+cnts MPat.cnt xs<=4611686018427387904):FT 18 [.osl 62 1 (xs.map MPat.own),.s (.int .i64 k)] (fun r o=>r=.s (.int .i64 (k+cnts MPat.cnt xs))/\o=[.osl 62 1 ((marks MPat.cnt MPat.mark k xs).map MPat.own),.un]):=by
 refine FI PM Tryz.func18 Tryz.ntmps18 [] rfl rfl ?_
 (have hWf:=f0;repeat' (first|refine zS ?_|refine zI ?_ ?_|exact zF0|refine zD fun hb=>?_|exact zC|refine zT ?_|fail))
 refine Xw (fun n σ=>∃ i:Nat,i<=xs.length/\n=xs.length - i/\σ.t 0=.bs 900000 1 xs.length/\σ.t 1=.s (.int .i64 (k+cnts MPat.cnt (xs.take i)))/\σ.t 5=.s (.int .i64 i)/\σ.b 900000=some (.arr 62 1 ((stM MPat.cnt MPat.mark k xs i).map MPat.own))) xs.length ⟨0,by omega,by omega,?_⟩ ?_
 ·simp only [go_sem,simprocAttr,Int.natCast_zero,ux,List.take_zero,cnts,Int.add_zero]
 ·rintro n σ ⟨i,hi,rfl,h0,h1,h5,h9⟩ K' hK
  by_cases hlt:i<xs.length
  ·have hc:=zt (c:=MPat.cnt) hlt
   have hc':=uE (c:=MPat.cnt) xs (i+1);have hx:=vA (c:=MPat.cnt) (m:=MPat.mark) k hlt MPat.own;have hpl:=vB (c:=MPat.cnt) (m:=MPat.mark) k (Nat.le_of_lt hlt);have hst:=uP (c:=MPat.cnt) (m:=MPat.mark) k hlt MPat.own;have hgs:∀ r,(((stM MPat.cnt MPat.mark k xs i).map MPat.own).set i r).getD i []=r:=fun r=>by rw [List.getD_eq_getElem?_getD,List.getElem?_set_self (by rw [List.length_map,hpl];exact hlt)];rfl
   simp only [MPat.own_eq,MPat.mark] at hx hst
   simp only [MPat.cnt] at hc
   have hrow:((stM MPat.cnt MPat.mark k xs i).map MPat.own)[i]?=some (MPat.own xs[i]):=by
    have h1:i<((stM MPat.cnt MPat.mark k xs i).map MPat.own).length:=by simpa [hpl] using hlt
    rw [List.getElem?_eq_getElem h1,<- ym (List.getElem?_eq_getElem h1),hx]
    rfl
   have hsx:=hs.2 _ (List.getElem_mem hlt);have hl:=hs.1
   (refine xj ?_;simp only [go_sem,simprocAttr,h0,h1,h5];(have hWf:=w3 @h0 @h1 @h5;repeat' (first|refine zY ?_|refine zI ?_ ?_|exact zF1|refine zD fun hb=>?_|exact zC|refine zT ?_|fail)))
   (refine xj ?_;simp only [go_sem,simprocAttr,h0,h1,h5];(have hWf:=w3 @h0 @h1 @h5;repeat' (first|refine zY ?_|refine zI ?_ ?_|exact zF1|refine zD fun hb=>?_|exact zC|refine zT ?_|fail)))
   (refine xj ?_;simp only [go_sem,simprocAttr,h0,h1,h5];(have hWf:=w3 @h0 @h1 @h5;repeat' (first|refine zY ?_|refine zI ?_ ?_|exact zF1|refine zD fun hb=>?_|exact zC|refine zT ?_|fail)))
   refine Xp 900000 i 0 1000000000 (e:=62) (k:=1) (rows:=((stM MPat.cnt MPat.mark k xs i).map MPat.own)) (row:=[.osl 59 4 (xs[i].nodes.map DPNode.own)]) (d:=.osl 59 4 (xs[i].nodes.map DPNode.own)) (by simp only [go_sem,simprocAttr,h9]) (hrow) rfl rfl (by decide) (by decide) ?_
   (have hWf:=w9 @h0 @h1 @h5 @h9 @hx @hpl @hgs @MPat.own_eq @xk;repeat' (first|refine zS ?_|refine zI ?_ ?_|((with_reducible apply xc);refine xh (ZD xs[i].nodes (hsx) _ (by omega) (by omega)) ?_;rintro _ _ ⟨rfl,rfl⟩)|((with_reducible apply xf);refine xe (ZD xs[i].nodes (hsx) _ (by omega) (by omega)) ?_)|exact zF0|refine zD fun hb=>?_|exact zC|refine zT ?_|fail))
   refine hK (xs.length - (i+1)) _ _ (by omega) (vo 900000 1000000000 (e:=62) (k:=1) (i:=i) (j:=0) (rows:=((stM MPat.cnt MPat.mark k xs i).map MPat.own)) (r:=.bs 1000000000 4 xs[i].nodes.length) (d:=.osl 59 4 ((marks DPNode.cnt DPNode.mark (k+(cnts MPat.cnt (xs.take i):Nat)) xs[i].nodes).map DPNode.own)) (ob:=4=4/\xs[i].nodes.length<=((marks DPNode.cnt DPNode.mark (k+(cnts MPat.cnt (xs.take i):Nat)) xs[i].nodes).map DPNode.own).length) ?_ ?_ ⟨rfl,by rw [List.length_map,xk];exact Nat.le_refl _⟩ rfl (by decide)) ⟨i+1,by omega,rfl,?_⟩
   ·simp only [go_sem,simprocAttr,h9,hgs]
   ·simp only [go_sem,simprocAttr,xk]
   ·simp only [go_sem,simprocAttr,h0,h1,h5,h9,Int.natCast_succ,hx,hst,hgs,List.set_set,List.set_cons_succ,List.set_cons_zero]
    exact xq (by rw [hc];push_cast;omega)
  ·obtain rfl:i=xs.length:=by omega
   rw [vz] at h9
   rw [List.take_length] at h1
   (have hWf:=w5 @h0 @h1 @h5 @h9 @xk;repeat' (first|refine zS ?_|refine zI ?_ ?_|exact zF0|refine zD fun hb=>?_|exact zC|refine zT ?_|fail))
end
section
open Go.RowKit
def zW(s:ByteArray)(k:Nat)(pair:Bool):Bool:=
 if s.toList==[116,114,117,101]||s.toList==[102,97,108,115,101]||s.toList==[91,93] then (k:Int)==0
 else if s.toList==[58,58] then ((k:Int)==1)&&pair
 else conM s.data.toList&&decide ((k:Int)<=1)
abbrev yR(xs:List DPNode):List (List Int):=xs.map fun x=>x.kids
theorem X4(xs:List DPNode):(yR xs).length=xs.length:=List.length_map ..
theorem kidsP_at(xs:List DPNode)(k:Nat)(h:k<xs.length):(yR xs)[k]'(by simpa using h)=xs[k].kids:=by simp
def vf(xs:List DPNode)(l:List Int):Bool:=match l with
 | [k]=>decide (0<=k)&&decide (k<xs.length)&&(match xs[k.toNat]? with|some x=>x.kind==5|none=>false)
 | _=>false
theorem xbC(xs:List DPNode)(l:List Int)(h:¬ l.length=1):vf xs l=false:=by
 unfold vf;split
 ·simp at h
 ·rfl
theorem UP(xs:List DPNode)(l:List Int)(h:l.length=1)(k:Nat)(hk:k<xs.length)(hl:l[0]'(by omega)=(k:Int)):vf xs l=(xs[k].kind==5):=by
 match l,h with
 | [z],_=>
  have hz:z=(k:Int):=hl;subst hz;have e:vf xs [(k:Int)]=(decide (0<=(k:Int))&&decide ((k:Int)<xs.length)&&(match xs[(k:Int).toNat]? with|some x=>x.kind==5|none=>false)):=rfl
  rw [e,decide_eq_true (by omega),decide_eq_true (by omega),Int.toNat_natCast,List.getElem?_eq_getElem hk]
  rfl
theorem xac(xs:List DPNode)(l:List Int)(h:l.length=1)(hl:l[0]'(by omega)<0\/(xs.length:Int)<=l[0]'(by omega)):vf xs l=false:=by
 match l,h with
 | [z],_=>
  have hz:z<0\/(xs.length:Int)<=z:=hl;have e:vf xs [z]=(decide (0<=z)&&decide (z<xs.length)&&(match xs[z.toNat]? with|some x=>x.kind==5|none=>false)):=rfl
  rw [e];rcases hz with hz|hz
  ·rw [decide_eq_false (by omega)];rfl
  ·rw [decide_eq_false (p:=z<(xs.length:Int)) (by omega),Bool.and_false];rfl
def yE(p:Bool)(x:DPNode):Bool:=
 if x.kind=3 then ((x.kids.length:Int)==0)&&x.s.toList.isEmpty&&(decide (-4611686018427387903<=x.n)&&decide (x.n<=4611686018427387903))
 else if x.kind=2 then ((x.kids.length:Int)==0)&&(x.n==0)&&yn x.s
 else if x.kind=6\/x.kind=1 then ((x.kids.length:Int)==0)&&(x.n==0)&&x.s.toList.isEmpty
 else if x.kind=5 then ((x.kids.length:Int)==2)&&(x.n==0)&&x.s.toList.isEmpty
 else if x.kind=4 then (x.n==0)&&zW x.s x.kids.length p
 else false
def zy(xs:List DPNode)(x:DPNode):Bool:=yE (vf xs x.kids) x
def dupB(y x:DPNode):Bool:=(x.kind==2)&&((y.kind==2)&&decide (y.s=x.s))
def yC(xs:List DPNode)(i:Nat)(h:i<xs.length):Bool:=zy xs xs[i]&&(xs.take i).all fun y=>!dupB y xs[i]
def patM(xs:List DPNode):Bool:=decide (1<=xs.length)&&decide (xs.length<=600)&&(List.finRange xs.length).all (fun i=>yC xs i.1 i.2)&&xZ (yR xs)
theorem VU{n:Nat}{p:Fin n->Bool}:(List.finRange n).all p=true ↔ ∀ i,p i=true:=by simp [List.all_eq_true]
theorem Y8{xs:List DPNode}{k:Nat}(h:k<xs.length)(hb:yC xs k h=false):patM xs=false:=by
 have:(List.finRange xs.length).all (fun i=>yC xs i.1 i.2)=false:=by
  rw [List.all_eq_false];exact ⟨⟨k,h⟩,List.mem_finRange _,by simp [hb]⟩
 unfold patM;rw [this,Bool.and_false,Bool.false_and]
theorem W5{xs:List DPNode}{k:Nat}(h:k<xs.length)(hb:zy xs xs[k]=false):yC xs k h=false:=by unfold yC;rw [hb];rfl
theorem W6{xs:List DPNode}{k j:Nat}(h:k<xs.length)(hj:j<k)(hb:dupB (xs[j]'(by omega)) xs[k]=true):yC xs k h=false:=by
 unfold yC;have:((xs.take k).all fun y=>!dupB y xs[k])=false:=by
  rw [List.all_eq_false];refine ⟨xs[j]'(by omega),?_,by rw [hb];simp⟩
  rw [List.mem_take_iff_getElem];exact ⟨j,by omega,rfl⟩
 rw [this,Bool.and_false]
theorem QS{xs:List DPNode}{k:Nat}(h:k<xs.length)(hb:zy xs xs[k]=true)(hd:∀ j (hj:j<k),dupB (xs[j]'(by omega)) xs[k]=false):yC xs k h=true:=by
 unfold yC;rw [hb,Bool.true_and,List.all_eq_true];intro y hy;rw [List.mem_take_iff_getElem] at hy
 obtain ⟨j,hj,rfl⟩:=hy;rw [hd j (by omega)];rfl
theorem ZN{xs:List DPNode}{k:Nat}(h:∀ j (hj:j<xs.length),j<k->yC xs j hj=true)(hlt:k<xs.length)(hk:yC xs k hlt=true):∀ j (hj:j<xs.length),j<k+1->yC xs j hj=true:=fun j hj hjk=>by
 rcases Nat.lt_or_ge j k with q|q
 ·exact h j hj q
 ·obtain rfl:j=k:=by omega
  exact hk
theorem xab(ks:List (List Int))(n:Nat):∀ (l:List Int) (m e:Nat),y4 (pEnd ks n) l m=some e->∀ z∈l,∃ q:Nat,z=(q:Int)/\q<ks.length
 | [],m,e,h,z,hz=>by cases hz
 | k::l,m,e,h,z,hz=>by
  rw [ve] at h
  cases hc:yx ks n k m with
  | none=>rw [hc] at h;cases h
  | some e1=>
   rw [hc] at h
   have hb:=U0 hc;rcases List.mem_cons.1 hz with rfl|hz
   ·exact ⟨m,hb.1,by omega⟩
   ·exact xab ks n l e1 e h z hz
theorem Y7(ks:List (List Int)):∀ (n m e:Nat),pEnd ks n m=some e->∀ k (h:k<ks.length),m<=k->k<e->∀ z∈ks[k],∃ q:Nat,z=(q:Int)/\q<ks.length
 | 0,m,e,h=>by cases h
 | n+1,m,e,h=>by
  intro k hk h1 h2 z hz;have hm:m<ks.length:=by
   rcases Nat.lt_or_ge m ks.length with q|q
   ·exact q
   ·rw [XF _ _ _ q] at h;cases h
  rw [YA _ _ _ hm] at h
  by_cases hkm:k=m
  ·subst hkm
   exact xab ks n _ _ _ h z hz
  ·have key:∀ (l:List Int) (m e:Nat),y4 (pEnd ks n) l m=some e->m<=k->k<e->∃ q:Nat,z=(q:Int)/\q<ks.length:=by
    intro l
    induction l with
    | nil=>
     intro m e h a b;have h':some m=some e:=h;injection h' with h';omega
    | cons k0 l ih=>
     intro m e h a b;rw [ve] at h
     cases hc:yx ks n k0 m with
     | none=>rw [hc] at h;cases h
     | some e1=>
      rw [hc] at h
      have hb:=U0 hc
      by_cases hke:k<e1
      ·unfold yx at hc
       rw [if_pos hb.1] at hc
       exact Y7 ks n m e1 hc k hk a hke z hz
      ·exact ih e1 e h (by omega) b
   exact key _ _ _ h (by omega) h2
theorem order_inP{xs:List DPNode}(h:xZ (yR xs)=true)(k:Nat)(hk:k<xs.length)(h1:xs[k].kids.length=1):∃ q:Nat,xs[k].kids[0]'(by omega)=(q:Int)/\q<xs.length:=by
 unfold xZ at h
 have he:pEnd (yR xs) (yR xs).length 0=some (yR xs).length:=by simpa using h
 have:=Y7 (yR xs) _ _ _ he k (by rw [X4];exact hk) (Nat.zero_le _) (by rw [X4];exact hk) (xs[k].kids[0]'(by omega)) (by rw [kidsP_at xs k hk];exact List.getElem_mem _)
 rw [X4] at this
 exact this
def NamesAt(xs:List DPNode)(k:Nat)(ns:List ByteArray):Prop:=ns.length<=k/\∀ s,s∈ns ↔ ∃ j,∃ h:j<xs.length,j<k/\xs[j].kind=2/\xs[j].s=s
theorem NamesAt.zero(xs:List DPNode):NamesAt xs 0 []:=⟨Nat.le_refl _,fun s=>⟨fun h=>(by cases h),fun ⟨j,_,hj,_⟩=>(by omega)⟩⟩
theorem NamesAt.skip{xs:List DPNode}{k:Nat}{ns:List ByteArray}(h:NamesAt xs k ns)(hk:k<xs.length)(h2:xs[k].kind≠2):NamesAt xs (k+1) ns:=by
 refine ⟨by have:=h.1;omega,fun s=>?_⟩
 rw [h.2 s]
 constructor
 ·rintro ⟨j,hj,a,b⟩
  exact ⟨j,hj,by omega,b⟩
 ·rintro ⟨j,hj,a,b,c⟩
  refine ⟨j,hj,?_,b,c⟩;rcases Nat.lt_or_ge j k with q|q
  ·exact q
  ·obtain rfl:j=k:=by omega
   exact absurd b h2
theorem NamesAt.add{xs:List DPNode}{k:Nat}{ns:List ByteArray}(h:NamesAt xs k ns)(hk:k<xs.length)(h2:xs[k].kind=2):NamesAt xs (k+1) (ns++[xs[k].s]):=by
 refine ⟨by have:=h.1;simp;omega,fun s=>?_⟩
 rw [List.mem_append,h.2 s,List.mem_singleton]
 constructor
 ·rintro (⟨j,hj,a,b⟩|rfl)
  ·exact ⟨j,hj,by omega,b⟩
  ·exact ⟨k,hk,by omega,h2,rfl⟩
 ·rintro ⟨j,hj,a,b,c⟩
  rcases Nat.lt_or_ge j k with q|q
  ·exact .inl ⟨j,hj,q,b,c⟩
  ·obtain rfl:j=k:=by omega
   exact .inr c.symm
theorem NamesAt.dup{xs:List DPNode}{k:Nat}{ns:List ByteArray}(h:NamesAt xs k ns)(hk:k<xs.length)(h2:xs[k].kind=2)(hi:inL xs[k].s ns=true):yC xs k hk=false:=by
 obtain ⟨j,hj,a,b,c⟩:=(h.2 _).1 ((uI _ _).1 hi);exact W6 hk a (by unfold dupB;rw [h2,b,decide_eq_true c];rfl)
theorem NamesAt.none{xs:List DPNode}{k:Nat}{ns:List ByteArray}(h:NamesAt xs k ns)(hk:k<xs.length)(hp:zy xs xs[k]=true)(hi:xs[k].kind=2->inL xs[k].s ns=false):yC xs k hk=true:=by
 refine QS hk hp fun j hj=>?_
 unfold dupB
 by_cases h2:xs[k].kind=2
 ·have hn:=hi h2
  by_cases hj2:(xs[j]'(by omega)).kind=2
  ·by_cases hs:(xs[j]'(by omega)).s=xs[k].s
   ·have:inL xs[k].s ns=true:=(uI _ _).2 ((h.2 _).2 ⟨j,by omega,hj,hj2,hs⟩)
    rw [this] at hn;cases hn
   ·rw [decide_eq_false hs];simp
  ·simp [hj2]
 ·simp [h2]
theorem RepL.inv{S:Nat->Prop}{up:Nat->Option Pos}{W:World}{d:D}{ds:List D}{us:List Value}(h:RepL S up W (d::ds) us):∃ u t,us=u::t/\Rep S up W none d u/\RepL S up W ds t:=by
 obtain ⟨h1,h2⟩:=h
 match us,h1 with
 | u::t,h1=>exact ⟨u,t,rfl,h2 0 d u rfl rfl,by simpa using h1,fun j d' u' q1 q2=>h2 (j+1) d' u' (by simpa using q1) (by simpa using q2)⟩
theorem two_args{P:Nat->D->Value->Prop}{b c:D}{vs:List Value}(hl:vs.length=[b,c].length)(h:∀ (j:Nat) (x:D) (u:Value),[b,c][j]?=some x->vs[j]?=some u->P j x u):∃ v u,vs=[v,u]/\P 0 b v/\P 1 c u:=by
 match vs,hl with
 | [v,u],_=>exact ⟨v,u,rfl,h 0 b v rfl rfl,h 1 c u rfl rfl⟩
theorem SlOf.mapR{α β:Type}{k:Nat}{R:Hp->List Value->α->Prop}{R':Hp->List Value->β->Prop}{h:Hp}{v:Value}{xs:List α}(f:α->β)(hR:∀ r x,R h r x->R' h r (f x))(q:SlOf k R h v xs):SlOf k R' h v (xs.map f):=by
 obtain ⟨a,c,e,h1,h2,r⟩:=q;refine ⟨a,c,by simpa using e,by simpa using h1,h2,r.imp (fun z=>by simp [z]) ?_⟩
 rintro ⟨b,off,ea,hc⟩
 refine ⟨b,off,ea,fun i hi=>?_⟩
 obtain ⟨r,r1,r2,r3⟩:=hc i (by simpa using hi)
 exact ⟨r,r1,r2,by simpa using hR _ _ r3⟩
theorem intS_of{S:Nat->Prop}{up:Nat->Option Pos}{W:World}{v:Value}{l:List Int}(h:Rep S up W none (.sl 1 (l.map iE)) v)(ho:∀ x∈l,I64 x):IntS (hp W) v l:=
 Rep.slOf (enc:=iE) (fun _ _=>rfl) (by decide) (fun r x hx hr=>by
  rw [xr] at hr
  obtain ⟨u0,t0,rfl,h0,hr⟩:=hr.inv;obtain rfl:t0=[]:=List.eq_nil_of_length_eq_zero (by have:=hr.1;simpa using this)
  obtain rfl:u0=.int .i64 x:=Rep.s_inv h0;exact ⟨rfl,ho x hx⟩) h
theorem Q0{α:Type}{enc:α->List D}{kids:α->List Int}{k c:Nat}(hk:0<k){S:Nat->Prop}{up:Nat->Option Pos}{W:World}{v:Value}{xs:List α}(hl:∀ x∈xs,(enc x).length=k)(hc:∀ x∈xs,(enc x)[c]?=some (.sl 1 ((kids x).map iE)))(h:Rep S up W none (.sl k (xs.map enc)) v)(ho:∀ x∈xs,∀ z∈kids x,I64 z):KidsAt k c (hp W) v (xs.map kids):=by
 refine SlOf.mapR (R:=fun h r (x:α)=>KidR k c h r (kids x)) kids (fun r x q=>q) ?_
 refine Rep.slOf (enc:=enc) hl hk (fun r x hx hr=>?_) h
 have h1:=hl x hx;have h2:=hc x hx;have hlt:c<r.length:=by rw [hr.1];exact (List.getElem?_eq_some_iff.1 h2).1
 exact ⟨by rw [hr.1,h1],r[c],List.getElem?_eq_getElem hlt,intS_of (hr.2 c _ _ h2 (List.getElem?_eq_getElem hlt)) (ho x hx)⟩
theorem pat_kids(w:World)(h:Hp)(hs:Sub h w)(v:Value)(ks:List (List Int))(hv:KidsAt 4 3 h v ks)(hl:ks.length<=1000000000)(Bd Od:Nat)(hB:w.cell? ⟨Bd,Od,none⟩=some v)(i:Nat)(hi:i<ks.length) :
  Calls Tryz.prog 96 #[.int .i64 i,.pointer (some ⟨Bd,Od,none⟩)] w fun e w'=>KidQ h w ks[i] e w':=by
 have HV:=Lib.hid hv;obtain ⟨a,c,rfl,hc1,hc2,-⟩:=hv;unfold maxLen at hc2
 obtain ⟨b,off,rfl,hcell⟩:=HV.out.cell hi;obtain ⟨v1,hrel,hcs⟩:=hcell i hi;have c3:=hcs w hs;have HR:=Lib.hid hrel;clear hcell hcs hrel
 go_enter Tryz.func96,Tryz.ntmps96
 go_wp2_with fail
 go_ret
 exact ⟨_,rfl,HR.out,(by repeat (first|with_reducible exact Below.refl _ _|with_reducible assumption|with_reducible refine Below.setCell ?_ ?_ _|with_reducible refine Below.alloc ?_ ?_ _|with_reducible refine Below.drew ?_|(with_reducible apply wl;with_reducible assumption)|exact Nat.le_refl _|omega|(simp<;>omega)))⟩
theorem ent_of {f:FuncId} {fn:Func} {c:Code} (hf:Tryz.prog.funcs[f]?=some fn) (hname:(fn.name == "runtime.NumGoroutine")=false) (hb:fn.body=some c) (vs:Array Value) (w:World):(callFunc f vs).run Tryz.prog w=.ok (.enter f vs) w:=by
 have hname':¬ fn.name = "runtime.NumGoroutine" := by simpa using hname
 have hbn:¬ fn.body=none:=by rw [hb];simp
 simp [callFunc,hf,hname',hbn]
theorem Qv(K:FuncId)(hEnt:∀ vs w,(callFunc K vs).run Tryz.prog w=.ok (.enter K vs) w)(ks:List (List Int))(row:List D)(hl:ks.length<=1000000000)(hks:∀ k∈ks,k.length<=1000000000)
  (hK:∀ (w:World) (S:Nat->Prop) (up:Nat->Option Pos) (v:Value),Rep S up w none (.pt row) v->∀ w1,Below w.heap.size w w1->∀ m (hm:m<ks.length),Calls Tryz.prog K #[.int .i64 m,v] w1 fun e w'=>KidQ (hp w) w1 ks[m] e w') :
  FT 95 [.s (.int .i64 ks.length),.fn K [.pt row]] (fun r _=>r=.s (.bool (xZ ks))):=by
 refine FCon.ofBelow Tryz.func95 (by kernel_rfl) rfl (Rv:=(· = .bool (xZ ks))) (fun v hv=>by subst hv;exact ⟨rfl,rfl⟩) rfl fun w S up vs h1 h2=>?_
 obtain ⟨v,u,rfl,hv,hu⟩:=two_args (P:=fun _ b u=>RB S up w b u) h1 h2
 obtain rfl:v=.int .i64 ks.length:=Rep.s_inv (show Rep S up w none (.s (.int .i64 ks.length)) v from hv);cases (show Rep S up w none (.fn K [.pt row]) u from hu) with
 | fn us hus=>
  have hp:=hus 0 _ rfl;have e:((List.range [D.pt row].length).map us).toArray=#[us 0]:=by simp
  rw [e];exact (xbu w ks hl (fun k h=>hks _ (List.getElem_mem h)) K (us 0) hEnt fun w1 hb m hm=>hK w S up _ hp w1 hb m hm).mono fun e w' ⟨q1,q2⟩=>⟨_,q1,rfl,q2⟩
theorem Vb(xs:List DPNode)(ho:∀ x∈xs,x.ok)(hl:xs.length<=1000000000)(hks:∀ x∈xs,x.kids.length<=1000000000) :
  FT 95 [.s (.int .i64 xs.length),.fn 96 [.pt [.sl 4 (xs.map DPNode.enc)]]] (fun r _=>r=.s (.bool (xZ (yR xs)))):=by
 have hlen:(xs.map DPNode.kids).length=xs.length:=List.length_map _;have:=Qv 96 (ent_of Tryz.func96 rfl rfl) (xs.map DPNode.kids) [.sl 4 (xs.map DPNode.enc)] (by rw [hlen];exact hl) (fun k h=>by obtain ⟨x,hx,rfl⟩:=List.mem_map.1 h;exact hks x hx) fun w S up v hv w1 hb m hm=>by
  cases hv with
  | @pt _ _ b off ws hc hr=>
   have c1:=(hc 0 _ rfl).2;have hk:=Q0 (enc:=DPNode.enc) (kids:=DPNode.kids) (k:=4) (c:=3) (by decide) (fun _ _=>rfl) (fun _ _=>rfl) (hr 0 _ rfl) (fun x hx=>(ho x hx).2.2.2)
   exact pat_kids w1 (hp w) ((Sub.self w).below hb) _ _ hk (by rw [hlen];exact hl) b off (wC hb c1) m hm
 rw [hlen] at this
 exact this
theorem litTrue:(⟨#[116,114,117,101]⟩:ByteArray).toList=[116,114,117,101]:=by kernel_rfl
theorem xbp:(⟨#[102,97,108,115,101]⟩:ByteArray).toList=[102,97,108,115,101]:=by kernel_rfl
theorem litNil:(⟨#[91,93]⟩:ByteArray).toList=[91,93]:=by kernel_rfl
theorem litCons:(⟨#[58,58]⟩:ByteArray).toList=[58,58]:=by kernel_rfl
theorem z6(s:ByteArray)(hs:s.size<=maxLen)(k:Nat)(p:Bool):FT 146 [.s (.string s),.s (.int .i64 k),.s (.bool p)] (fun r _=>r=.s (.bool (zW s k p))):=by
 refine FI PM Tryz.func146 Tryz.ntmps146 [] rfl rfl ?_
 (have hWf:=w4 @litTrue @xbp @litNil @litCons;repeat' (first|refine zS ?_|refine zI ?_ ?_|refine zK (wm s hs) ?_|exact zF0|refine zD fun hb=>?_|exact zC|refine zT ?_|fail))
 all_goals exact sB (by grind [zW])
theorem yi(s:ByteArray)(hs:s.size<=maxLen)(k:Nat)(p:Bool):FT 129 [.s (.string s),.s (.int .i64 k),.s (.bool p)] (fun r _=>r=.s (.bool (zW s k p))):=by
 refine FI PM Tryz.func129 Tryz.ntmps129 [] rfl rfl ?_
 (have hWf:=w4 @litTrue @xbp @litNil @litCons;repeat' (first|refine zS ?_|refine zI ?_ ?_|refine zK (vI s hs) ?_|exact zF0|refine zD fun hb=>?_|exact zC|refine zT ?_|fail))
 all_goals exact sB (by grind [zW])
theorem uM{p:Bool}{x:DPNode}(h:x.kind<1\/6<x.kind):yE p x=false:=by
 unfold yE;rw [if_neg (by omega),if_neg (by omega),if_neg (by omega),if_neg (by omega),if_neg (by omega)]
theorem patN_4(xs:List DPNode)(n:Int)(s:ByteArray)(kids:List Int)(hs:s.size<=maxLen)(hkl:kids.length<=1048576)(hin:∀ h1:kids.length=1,∃ k:Nat,kids[0]'(by omega)=(k:Int)/\k<xs.length):FT 97 [.ag [.sl 4 (xs.map DPNode.enc)],.ag (DPNode.mk 4 n s kids).enc] (fun r _=>r=.s (.bool (zy xs ⟨4,n,s,kids⟩))):=by
 have e:zy xs ⟨4,n,s,kids⟩=((n==0)&&zW s kids.length (vf xs kids)):=by unfold zy yE;simp
 rw [e]
 match kids,hkl,hin with
 | [],_,_=>
  refine FI PM Tryz.func97 Tryz.ntmps97 [(11,21,[],[],(lin [] [0,1,2,3,4,5,6,7,8,9,10,11,12,13,14,15,16,17,18,19,20]))] rfl rfl ?_
  (have hWf:=w1 @DPNode.enc_eq;repeat' (first|refine zS ?_|refine zI ?_ ?_|refine zK (z6 s hs 0 false) ?_|exact zF0|refine zD fun hb=>?_|exact zC|refine zT ?_|fail))
  all_goals rfl
 | [z],_,hin=>
  obtain ⟨k,hz,hk⟩:=hin rfl;have hz:z=(k:Int):=hz;subst hz;rw [UP xs [(k:Int)] rfl k hk rfl];have hg:=xb DPNode.enc xs k hk;have he:=DPNode.enc_eq xs[k];refine FI PM Tryz.func97 Tryz.ntmps97 [(11,21,[],[],(lin [] [0,1,2,3,4,5,6,7,8,9,10,11,12,13,14,15,16,17,18,19,20]))] rfl rfl ?_
  (have hWf:=w4 @DPNode.enc_eq @hg @he @xr;repeat' (first|refine zS ?_|refine zI ?_ ?_|refine zK (z6 s hs 1 (xs[k].kind==5)) ?_|exact zF0|refine zD fun hb=>?_|exact zC|refine zT ?_|fail))
 | a::b::l,_,_=>
  rw [xbC xs (a::b::l) (by simp)]
  have hl1:(((l.length+1+1:Nat):Int)==1)=false:=by simp;omega
  cases hn:(n==0)
  all_goals
   refine FI (PMr [11]) Tryz.func97 Tryz.ntmps97 [(11,21,[],[],(lin [] [0,1,2,3,4,5,6,7,8,9,10,11,12,13,14,15,16,17,18,19,20]))] rfl rfl ?_
   (have hWf:=w4 @DPNode.enc_eq @xr @hl1 @hn;repeat' (first|refine zS ?_|refine zI ?_ ?_|refine zK (z6 s hs (l.length+1+1) false) ?_|exact zF0|refine zD fun hb=>?_|exact zC|refine zT ?_|fail))
theorem xb4(xs:List DPNode)(x:DPNode)(hx:x.ok)(hkl:x.kids.length<=1048576)(hin:∀ h1:x.kids.length=1,∃ k:Nat,x.kids[0]'(by omega)=(k:Int)/\k<xs.length):FT 97 [.ag [.sl 4 (xs.map DPNode.enc)],.ag x.enc] (fun r _=>r=.s (.bool (zy xs x))):=by
 obtain ⟨kind,n,s,kids⟩:=x;obtain ⟨-,-,hs,-⟩:=hx;dsimp only at hkl hin hs
 by_cases hr:kind<1\/6<kind
 ·rw [show zy xs ⟨kind,n,s,kids⟩=false from uM hr]
  have e1:(kind==1)=false:=by simp;omega
  have e2:(kind==2)=false:=by simp;omega
  have e3:(kind==3)=false:=by simp;omega
  have e4:(kind==4)=false:=by simp;omega
  have e5:(kind==5)=false:=by simp;omega
  have e6:(kind==6)=false:=by simp;omega
  refine FI PM Tryz.func97 Tryz.ntmps97 [(11,21,[],[],(lin [] [0,1,2,3,4,5,6,7,8,9,10,11,12,13,14,15,16,17,18,19,20]))] rfl rfl ?_
  (have hWf:=w7 @DPNode.enc_eq @e1 @e2 @e3 @e4 @e5 @e6;repeat' (first|refine zS ?_|refine zI ?_ ?_|exact zF0|refine zD fun hb=>?_|exact zC|refine zT ?_|fail))
 ·by_cases h4:kind=4
  ·subst h4
   exact patN_4 xs n s kids hs hkl hin
  ·rcases (show kind=1\/kind=2\/kind=3\/kind=5\/kind=6 by omega) with rfl|rfl|rfl|rfl|rfl
   all_goals
    clear hin h4 hr;refine FI PM Tryz.func97 Tryz.ntmps97 [(11,21,[],[],(lin [] [0,1,2,3,4,5,6,7,8,9,10,11,12,13,14,15,16,17,18,19,20]))] rfl rfl ?_
    (have hWf:=w1 @DPNode.enc_eq;repeat' (first|refine zS ?_|refine zI ?_ ?_|refine zK (wB s hs) ?_|refine zK (yy n (-4611686018427387903) 4611686018427387903) ?_|exact zF0|refine zD fun hb=>?_|exact zC|refine zT ?_|fail))
    all_goals exact sB (by unfold zy yE;first|(simp_all;done)|grind)
theorem geB{a b:Int}(h:a<=b):decide (b ≥ a)=true:=decide_eq_true h
theorem l04P_N(xs:List DPNode)(hl:xs.length<=1048576)(kind n:Int)(s:ByteArray)(hs:s.size<=maxLen):FT 74 [.ag [.sl 4 (xs.map DPNode.enc)],.ag (DPNode.mk kind n s []).enc] (fun r _=>r=.s (.bool (yE false ⟨kind,n,s,[]⟩))):=by
 rcases (show (kind<1\/6<kind)\/kind=1\/kind=2\/kind=3\/kind=4\/kind=5\/kind=6 by omega) with hr|hin
 ·have e1:(kind==1)=false:=by simp;omega
  have e2:(kind==2)=false:=by simp;omega
  have e3:(kind==3)=false:=by simp;omega
  have e4:(kind==4)=false:=by simp;omega
  have e5:(kind==5)=false:=by simp;omega
  have e6:(kind==6)=false:=by simp;omega
  rw [uM (by exact hr)]
  refine FI (PMr [1]) Tryz.func74 Tryz.ntmps74 [(1,28,[],[],(lin [] [0,1,2,3,4,5,6,7,8,9,10,11,12,13,14,15,16,17,18,19,20,21,22,23,24,25,26,27]))] rfl rfl ?_
  (have hWf:=w8 @DPNode.enc_eq @xr @e1 @e2 @e3 @e4 @e5 @e6;repeat' (first|refine zS ?_|refine zI ?_ ?_|exact zF0|refine zD fun hb=>?_|exact zC|refine zT ?_|fail))
 ·rcases hin with rfl|rfl|rfl|rfl|rfl|rfl
  all_goals
   refine FI (PMr [1]) Tryz.func74 Tryz.ntmps74 [(1,28,[],[],(lin [] [0,1,2,3,4,5,6,7,8,9,10,11,12,13,14,15,16,17,18,19,20,21,22,23,24,25,26,27]))] rfl rfl ?_
   (have hWf:=w2 @DPNode.enc_eq @xr;repeat' (first|refine zS ?_|refine zI ?_ ?_|((with_reducible apply xc);refine zG (yi s hs _ _) ?_)|((with_reducible apply xf);refine xe (yi s hs _ _) ?_)|refine zK (xJ s hs) ?_|exact zF0|refine zD fun hb=>?_|exact zC|refine zT ?_|fail))
   all_goals exact sB (by unfold yE;first|(simp_all;done)|grind)
theorem l04P_B(xs:List DPNode)(hl:xs.length<=1048576)(kind n:Int)(s:ByteArray)(hs:s.size<=maxLen)(z:Int)(g1:decide (z ≥ 0)=false):FT 74 [.ag [.sl 4 (xs.map DPNode.enc)],.ag (DPNode.mk kind n s [z]).enc] (fun r _=>r=.s (.bool (yE false ⟨kind,n,s,[z]⟩))):=by
 rcases (show (kind<1\/6<kind)\/kind=1\/kind=2\/kind=3\/kind=4\/kind=5\/kind=6 by omega) with hr|hin
 ·have e1:(kind==1)=false:=by simp;omega
  have e2:(kind==2)=false:=by simp;omega
  have e3:(kind==3)=false:=by simp;omega
  have e4:(kind==4)=false:=by simp;omega
  have e5:(kind==5)=false:=by simp;omega
  have e6:(kind==6)=false:=by simp;omega
  rw [uM (by exact hr)]
  refine FI (PMr [1]) Tryz.func74 Tryz.ntmps74 [(1,28,[],[],(lin [] [0,1,2,3,4,5,6,7,8,9,10,11,12,13,14,15,16,17,18,19,20,21,22,23,24,25,26,27]))] rfl rfl ?_
  (have hWf:=w9 @DPNode.enc_eq @xr @g1 @e1 @e2 @e3 @e4 @e5 @e6;repeat' (first|refine zS ?_|refine zI ?_ ?_|exact zF0|refine zD fun hb=>?_|exact zC|refine zT ?_|fail))
 ·rcases hin with rfl|rfl|rfl|rfl|rfl|rfl
  all_goals
   refine FI (PMr [1]) Tryz.func74 Tryz.ntmps74 [(1,28,[],[],(lin [] [0,1,2,3,4,5,6,7,8,9,10,11,12,13,14,15,16,17,18,19,20,21,22,23,24,25,26,27]))] rfl rfl ?_
   (have hWf:=w3 @DPNode.enc_eq @xr @g1;repeat' (first|refine zS ?_|refine zI ?_ ?_|((with_reducible apply xc);refine zG (yi s hs _ _) ?_)|((with_reducible apply xf);refine xe (yi s hs _ _) ?_)|refine zK (xJ s hs) ?_|exact zF0|refine zD fun hb=>?_|exact zC|refine zT ?_|fail))
   all_goals exact sB (by unfold yE;first|(simp_all;done)|grind)
theorem l04P_O(xs:List DPNode)(hl:xs.length<=1048576)(kind n:Int)(s:ByteArray)(hs:s.size<=maxLen)(z:Int)(g1:decide (z ≥ 0)=true)(g2:decide (z<(xs.length:Int))=false):FT 74 [.ag [.sl 4 (xs.map DPNode.enc)],.ag (DPNode.mk kind n s [z]).enc] (fun r _=>r=.s (.bool (yE false ⟨kind,n,s,[z]⟩))):=by
 rcases (show (kind<1\/6<kind)\/kind=1\/kind=2\/kind=3\/kind=4\/kind=5\/kind=6 by omega) with hr|hin
 ·have e1:(kind==1)=false:=by simp;omega
  have e2:(kind==2)=false:=by simp;omega
  have e3:(kind==3)=false:=by simp;omega
  have e4:(kind==4)=false:=by simp;omega
  have e5:(kind==5)=false:=by simp;omega
  have e6:(kind==6)=false:=by simp;omega
  rw [uM (by exact hr)]
  refine FI (PMr [1]) Tryz.func74 Tryz.ntmps74 [(1,28,[],[],(lin [] [0,1,2,3,4,5,6,7,8,9,10,11,12,13,14,15,16,17,18,19,20,21,22,23,24,25,26,27]))] rfl rfl ?_
  (have hWf:=w10 @DPNode.enc_eq @xr @g1 @g2 @e1 @e2 @e3 @e4 @e5 @e6;repeat' (first|refine zS ?_|refine zI ?_ ?_|exact zF0|refine zD fun hb=>?_|exact zC|refine zT ?_|fail))
 ·rcases hin with rfl|rfl|rfl|rfl|rfl|rfl
  all_goals
   refine FI (PMr [1]) Tryz.func74 Tryz.ntmps74 [(1,28,[],[],(lin [] [0,1,2,3,4,5,6,7,8,9,10,11,12,13,14,15,16,17,18,19,20,21,22,23,24,25,26,27]))] rfl rfl ?_
   (have hWf:=w4 @DPNode.enc_eq @xr @g1 @g2;repeat' (first|refine zS ?_|refine zI ?_ ?_|((with_reducible apply xc);refine zG (yi s hs _ _) ?_)|((with_reducible apply xf);refine xe (yi s hs _ _) ?_)|refine zK (xJ s hs) ?_|exact zF0|refine zD fun hb=>?_|exact zC|refine zT ?_|fail))
   all_goals exact sB (by unfold yE;first|(simp_all;done)|grind)
theorem l04P_K(xs:List DPNode)(hl:xs.length<=1048576)(kind n:Int)(s:ByteArray)(hs:s.size<=maxLen)(k:Nat)(hk:k<xs.length):FT 74 [.ag [.sl 4 (xs.map DPNode.enc)],.ag (DPNode.mk kind n s [(k:Int)]).enc] (fun r _=>r=.s (.bool (yE (xs[k].kind==5) ⟨kind,n,s,[(k:Int)]⟩))):=by
 have g1:=geB (Int.natCast_nonneg k);have g2:=decide_eq_true (show (k:Int)<xs.length by omega)
 have g3:=xb DPNode.enc xs k hk;have g4:=DPNode.enc_eq xs[k];rcases (show (kind<1\/6<kind)\/kind=1\/kind=2\/kind=3\/kind=4\/kind=5\/kind=6 by omega) with hr|hin
 ·have e1:(kind==1)=false:=by simp;omega
  have e2:(kind==2)=false:=by simp;omega
  have e3:(kind==3)=false:=by simp;omega
  have e4:(kind==4)=false:=by simp;omega
  have e5:(kind==5)=false:=by simp;omega
  have e6:(kind==6)=false:=by simp;omega
  rw [uM (by exact hr)]
  refine FI (PMr [1]) Tryz.func74 Tryz.ntmps74 [(1,28,[],[],(lin [] [0,1,2,3,4,5,6,7,8,9,10,11,12,13,14,15,16,17,18,19,20,21,22,23,24,25,26,27]))] rfl rfl ?_
  (have hWf:=w10 @DPNode.enc_eq @xr @g1 @g2 @g3 @g4 @e1 @e2 @e3 (ai @e4<|ai @e5<|@e6);repeat' (first|refine zS ?_|refine zI ?_ ?_|exact zF0|refine zD fun hb=>?_|exact zC|refine zT ?_|fail))
 ·rcases hin with rfl|rfl|rfl|rfl|rfl|rfl
  all_goals
   refine FI (PMr [1]) Tryz.func74 Tryz.ntmps74 [(1,28,[],[],(lin [] [0,1,2,3,4,5,6,7,8,9,10,11,12,13,14,15,16,17,18,19,20,21,22,23,24,25,26,27]))] rfl rfl ?_
   (have hWf:=w6 @DPNode.enc_eq @xr @g1 @g2 @g3 @g4;repeat' (first|refine zS ?_|refine zI ?_ ?_|((with_reducible apply xc);refine zG (yi s hs _ _) ?_)|((with_reducible apply xf);refine xe (yi s hs _ _) ?_)|refine zK (xJ s hs) ?_|exact zF0|refine zD fun hb=>?_|exact zC|refine zT ?_|fail))
   all_goals exact sB (by unfold yE;first|(simp_all;done)|grind)
theorem l04P_L(xs:List DPNode)(hl:xs.length<=1048576)(kind n:Int)(s:ByteArray)(hs:s.size<=maxLen)(a b:Int)(l:List Int)(hkl:l.length<=1048576):FT 74 [.ag [.sl 4 (xs.map DPNode.enc)],.ag (DPNode.mk kind n s (a::b::l)).enc] (fun r _=>r=.s (.bool (yE false ⟨kind,n,s,(a::b::l)⟩))):=by
 have g1:(((l.length+1+1:Nat):Int)==1)=false:=by simp;omega
 rcases (show (kind<1\/6<kind)\/kind=1\/kind=2\/kind=3\/kind=4\/kind=5\/kind=6 by omega) with hr|hin
 ·have e1:(kind==1)=false:=by simp;omega
  have e2:(kind==2)=false:=by simp;omega
  have e3:(kind==3)=false:=by simp;omega
  have e4:(kind==4)=false:=by simp;omega
  have e5:(kind==5)=false:=by simp;omega
  have e6:(kind==6)=false:=by simp;omega
  rw [uM (by exact hr)]
  refine FI (PMr [1]) Tryz.func74 Tryz.ntmps74 [(1,28,[],[],(lin [] [0,1,2,3,4,5,6,7,8,9,10,11,12,13,14,15,16,17,18,19,20,21,22,23,24,25,26,27]))] rfl rfl ?_
  (have hWf:=w9 @DPNode.enc_eq @xr @g1 @e1 @e2 @e3 @e4 @e5 @e6;repeat' (first|refine zS ?_|refine zI ?_ ?_|exact zF0|refine zD fun hb=>?_|exact zC|refine zT ?_|fail))
 ·rcases hin with rfl|rfl|rfl|rfl|rfl|rfl
  all_goals
   refine FI (PMr [1]) Tryz.func74 Tryz.ntmps74 [(1,28,[],[],(lin [] [0,1,2,3,4,5,6,7,8,9,10,11,12,13,14,15,16,17,18,19,20,21,22,23,24,25,26,27]))] rfl rfl ?_
   (have hWf:=w3 @DPNode.enc_eq @xr @g1;repeat' (first|refine zS ?_|refine zI ?_ ?_|((with_reducible apply xc);refine zG (yi s hs _ _) ?_)|((with_reducible apply xf);refine xe (yi s hs _ _) ?_)|refine zK (xJ s hs) ?_|exact zF0|refine zD fun hb=>?_|exact zC|refine zT ?_|fail))
   all_goals exact sB (by unfold yE;first|(simp_all;done)|grind)
theorem xct(xs:List DPNode)(x:DPNode)(hx:x.ok)(hl:xs.length<=1048576)(hkl:x.kids.length<=1048576):FT 74 [.ag [.sl 4 (xs.map DPNode.enc)],.ag x.enc] (fun r _=>r=.s (.bool (zy xs x))):=by
 obtain ⟨kind,n,s,kids⟩:=x;obtain ⟨-,-,hs,-⟩:=hx;dsimp only at hkl hs
 show FT 74 _ (fun r _=>r=.s (.bool (yE (vf xs kids) ⟨kind,n,s,kids⟩)))
 match kids,hkl with
 | [],_=>exact l04P_N xs hl kind n s hs
 | [z],_=>
  by_cases h0:z<0
  ·rw [xac xs [z] rfl (.inl h0)]
   exact l04P_B xs hl kind n s hs z (decide_eq_false (by omega))
  ·by_cases h1:(xs.length:Int)<=z
   ·rw [xac xs [z] rfl (.inr h1)]
    exact l04P_O xs hl kind n s hs z (decide_eq_true (by omega)) (decide_eq_false (by omega))
   ·have hk:z.toNat<xs.length:=by omega
    obtain ⟨k,rfl⟩:∃ k:Nat,z=(k:Int):=⟨z.toNat,by omega⟩
    have hk:k<xs.length:=by omega
    rw [UP xs [(k:Int)] rfl k hk rfl];exact l04P_K xs hl kind n s hs k hk
 | a::b::l,hkl=>
  rw [xbC _ _ (by simp)]
  exact l04P_L xs hl kind n s hs a b l (by simp at hkl;omega)
theorem Qx(xs:List DPNode)(hl:xs.length<=1000000000)(hks:∀ x∈xs,x.kids.length<=1000000000) :
  ∀ (N m:Nat),xs.length - m<=N->m<=2000000000->FT 75 [.ag [.sl 4 (xs.map DPNode.enc)],.s (.int .i64 m)] (fun r _=>r=.s (.int .i64 (endZ (pEnd (yR xs) N m)))):=by
 have hlen:(yR xs).length=xs.length:=by simp
 have out:∀ (N m:Nat),xs.length<=m->m<=2000000000->FT 75 [.ag [.sl 4 (xs.map DPNode.enc)],.s (.int .i64 m)] (fun r _=>r=.s (.int .i64 (endZ (pEnd (yR xs) N m)))):=by
  intro N m hm hm2;rw [XF _ _ _ (by rw [hlen];exact hm)]
  refine FI PM Tryz.func75 Tryz.ntmps75 [] rfl rfl ?_
  (have hWf:=f0;repeat' (first|refine zS ?_|refine zI ?_ ?_|exact zF0|refine zD fun hb=>?_|exact zC|refine zT ?_|fail))
  all_goals (try rfl)
 intro N
 induction N with
 | zero=>intro m hm hm2;exact out 0 m (by omega) hm2
 | succ N ih=>
  intro m hm hm2
  by_cases hlt:m<xs.length
  ·have hx:=xb DPNode.enc xs m hlt
   have he:=DPNode.enc_eq xs[m];have hkl:=hks _ (List.getElem_mem hlt);rw [YA _ _ _ (by rw [hlen];exact hlt)]
   have hka:(yR xs)[m]'(by rw [hlen];exact hlt)=xs[m].kids:=by simp [yR]
   rw [hka];obtain ⟨R,hR⟩:∃ R,y4 (pEnd (yR xs) N) xs[m].kids (m+1)=R:=⟨_,rfl⟩;rw [hR];refine FI PM Tryz.func75 Tryz.ntmps75 [] rfl rfl ?_
   (have hWf:=w2 @hx @he;repeat' (first|refine zS ?_|refine zI ?_ ?_|exact zF0|refine zD fun hb=>?_|exact zC|refine zT ?_|fail))
   refine xd (fun n σ=>∃ j cur:Nat,j<=xs[m].kids.length/\n=xs[m].kids.length - j/\m<cur/\cur<=2000000000/\y4 (pEnd (yR xs) N) (xs[m].kids.drop j) cur=R/\σ.t 2=.bx 2 0/\σ.b 2=some (.box [.sl 4 (xs.map DPNode.enc)])/\σ.t 5=.s (.int .i64 cur)/\σ.t 20=xV xs[m].kids/\σ.t 21=.s (.int .i64 xs[m].kids.length)/\σ.t 22=.s (.int .i64 j)) xs[m].kids.length ⟨0,m+1,by omega,by omega,by omega,by omega,by rw [List.drop_zero];exact hR,?_⟩ ?_
   ·simp only [go_sem,simprocAttr]
    simp
   ·rintro n σ ⟨j,cur,hj,rfl,hcur,hc2,hp,h2,hb2,h5,h20,h21,h22⟩ K' hK
    by_cases hjl:j<xs[m].kids.length
    ·have gx:=xb iE xs[m].kids j hjl
     rw [ZI _ j hjl,ve] at hp
     by_cases hkc:xs[m].kids[j]=(cur:Int)
     ·have hw:yx (yR xs) N xs[m].kids[j] cur=pEnd (yR xs) N cur:=by unfold yx;rw [if_pos hkc]
      rw [hw] at hp
      have hkn:((cur:Int) != (cur:Int))=false:=bne_self_eq_false _;have hcc:=ih cur (by omega) hc2
      cases hq:pEnd (yR xs) N cur with
      | none=>
       rw [hq] at hcc hp
       have hcc:FT 75 [.ag [.sl 4 (xs.map DPNode.enc)],.s (.int .i64 cur)] (fun r _=>r=.s (.int .i64 (-1))):=hcc
       (have hWf:=w10 @h2 @hb2 @h5 @h20 @h21 @h22 @gx @xr @hkc @hkn;repeat' (first|refine zS ?_|refine zI ?_ ?_|refine zK hcc ?_|exact zF0|refine zD fun hb=>?_|exact zC|refine zT ?_|fail))
       all_goals (rw [<- hp];rfl)
      | some e1=>
       rw [hq] at hcc hp
       have hcc:FT 75 [.ag [.sl 4 (xs.map DPNode.enc)],.s (.int .i64 cur)] (fun r _=>r=.s (.int .i64 (e1:Int))):=hcc
       have hbd:=YB _ _ _ _ hq;rw [hlen] at hbd
       (have hWf:=w10 @h2 @hb2 @h5 @h20 @h21 @h22 @gx @xr @hkc @hkn;repeat' (first|refine zS ?_|refine zI ?_ ?_|refine zK hcc ?_|exact zF0|refine zD fun hb=>?_|exact zC|refine zT ?_|fail))
       refine hK (xs[m].kids.length - (j+1)) _ (by omega) ⟨j+1,e1,by omega,rfl,by omega,by omega,hp,?_⟩
       simp only [go_sem,simprocAttr,h2,hb2,h5,h20,h21,h22]
       simp
     ·have hw:yx (yR xs) N xs[m].kids[j] cur=none:=by unfold yx;rw [if_neg hkc]
      rw [hw] at hp
      have hne:(xs[m].kids[j] != (cur:Int))=true:=by simpa using hkc
      (have hWf:=w9 @h2 @hb2 @h5 @h20 @h21 @h22 @gx @xr @hne;repeat' (first|refine zS ?_|refine zI ?_ ?_|exact zF0|refine zD fun hb=>?_|exact zC|refine zT ?_|fail))
      all_goals (rw [<- hp];rfl)
    ·obtain rfl:j=xs[m].kids.length:=by omega
     rw [List.drop_eq_nil_of_le (Nat.le_refl _)] at hp
     (have hWf:=w6 @h2 @hb2 @h5 @h20 @h21 @h22;repeat' (first|refine zS ?_|refine zI ?_ ?_|exact zF0|refine zD fun hb=>?_|exact zC|refine zT ?_|fail))
     rw [<- hp];rfl
  ·exact out (N+1) m (by omega) hm2
theorem Yo(xs:List DPNode)(ho:∀ x∈xs,x.ok)(hs:smS DPNode.sm xs):FT 35 [.ag [.sl 4 (xs.map DPNode.enc)]] (fun r _=>r=.s (.bool (patM xs))):=by
 have hl:=hs.1;have hkl:∀ x∈xs,x.kids.length<=1048576:=fun x hx=>(hs.2 x hx).2.1
 by_cases h600:1<=xs.length/\xs.length<=600
 ·obtain ⟨h6,h7⟩:=h600
  refine FI PM Tryz.func35 Tryz.ntmps35 [(11,21,[],[],(lin [] [0,1,2,3,4,5,6,7,8,9,10,11,12,13,14,15,16,17,18,19,20])),(14,5,[],[],(lin [] [0,1,2,3,4]))] rfl rfl ?_
  (have hWf:=f0;repeat' (first|refine zS ?_|refine zI ?_ ?_|exact zF0|refine zD fun hb=>?_|exact zC|refine zT ?_|fail))
  refine xd (fun n σ=>∃ k:Nat,k<=xs.length/\n=xs.length - k/\σ.t 1=.bx 1 0/\σ.b 1=some (.box [.sl 4 (xs.map DPNode.enc)])/\σ.t 17=.sl 4 (xs.map DPNode.enc)/\σ.t 18=.s (.int .i64 xs.length)/\σ.t 19=.s (.int .i64 k)/\∀ j (hj:j<xs.length),j<k->yC xs j hj=true) xs.length ⟨0,by omega,by omega,?_⟩ ?_
  ·simp only [go_sem,simprocAttr,Int.natCast_zero]
   simp
  ·rintro n σ ⟨k,hk,rfl,h1,hb1,h17,h18,h19,hg⟩ K' hK
   by_cases hlt:k<xs.length
   ·have hx:=xb DPNode.enc xs k hlt
    have he:=DPNode.enc_eq xs[k];have hmem:=List.getElem_mem hlt;have hn:=xct xs xs[k] (ho _ hmem) hl (hkl _ hmem);cases hpn:zy xs xs[k] with
    | false=>
     rw [hpn] at hn
     (have hWf:=w7 @h1 @hb1 @h17 @h18 @h19 @hx @he;repeat' (first|refine zS ?_|refine zI ?_ ?_|refine zK hn ?_|exact zF0|refine zD fun hb=>?_|exact zC|refine zT ?_|fail))
     all_goals exact sB (Y8 hlt (W5 hlt hpn)).symm
    | true=>
     rw [hpn] at hn
     (have hWf:=w7 @h1 @hb1 @h17 @h18 @h19 @hx @he;repeat' (first|refine zS ?_|refine zI ?_ ?_|refine zK hn ?_|exact zF0|refine zD fun hb=>?_|exact zC|refine zT ?_|fail))
     refine xd (fun n σ=>∃ j:Nat,j<=k/\n=k - j/\σ.t 1=.bx 1 0/\σ.b 1=some (.box [.sl 4 (xs.map DPNode.enc)])/\σ.t 3=.s (.int .i64 k)/\σ.t 4=.bx 4 0/\σ.b 4=some (.box [.s (.int .i64 xs[k].kind),.s (.int .i64 xs[k].n),.s (.string xs[k].s),.sl 1 (xs[k].kids.map iE)])/\σ.t 5=.s (.int .i64 j)/\σ.t 17=.sl 4 (xs.map DPNode.enc)/\σ.t 18=.s (.int .i64 xs.length)/\σ.t 19=.s (.int .i64 k)/\∀ i (hi:i<j) (hk:i<xs.length),dupB xs[i] xs[k]=false) k ⟨0,by omega,by omega,?_⟩ ?_
     ·simp only [go_sem,simprocAttr,h1,hb1,h17,h18,h19,Int.natCast_zero]
      simp
     ·rintro n σ ⟨j,hj,rfl,g1,gb1,g3,g4,gb4,g5,g17,g18,g19,hno⟩ K'' hK''
      by_cases hjl:j<k
      ·have gx:=xb DPNode.enc xs j (by omega)
       have ge:=DPNode.enc_eq (xs[j]'(by omega))
       (have hWf:=w10 @g1 @gb1 @g3 @g4 @gb4 @g5 @g17 @g18 @g19 (ai @gx<|@ge);repeat' (first|refine zS ?_|refine zI ?_ ?_|exact zF0|refine zD fun hb=>?_|exact zC|refine zT ?_|fail))
       ·exact fun h=>⟨h,h,by omega,by omega⟩
       ·exact fun h=>⟨h,h,by omega,by omega⟩
       ·refine sB (Y8 hlt (W6 hlt hjl ?_)).symm
        unfold dupB;rw [hb.1.1,hb.1.2,toL_inj hb.2];simp
       ·refine hK'' (k - (j+1)) _ (by omega) ⟨j+1,by omega,rfl,?_⟩
        simp only [go_sem,simprocAttr,g1,gb1,g3,g4,gb4,g17,g18,g19,Int.natCast_succ];intro i hi hik;rcases Nat.lt_or_ge i j with q|q
        ·exact hno i q hik
        ·obtain rfl:i=j:=by omega
         unfold dupB;rcases hb with (hb|hb)|hb
         ·rw [show (xs[k].kind==2)=false by simpa using hb];rfl
         ·rw [show (xs[i].kind==2)=false by simpa using hb];simp
         ·rw [decide_eq_false (fun e=>hb (by rw [e]))];simp
      ·obtain rfl:j=k:=by omega
       (have hWf:=w9 @g1 @gb1 @g3 @g4 @gb4 @g5 @g17 @g18 @g19;repeat' (first|refine zS ?_|refine zI ?_ ?_|exact zF0|refine zD fun hb=>?_|exact zC|refine zT ?_|fail))
       refine hK (xs.length - (j+1)) _ (by omega) ⟨j+1,by omega,rfl,?_⟩
       simp only [go_sem,simprocAttr,g1,gb1,g17,g18,g19,Int.natCast_succ];exact ZN hg hlt (QS hlt hpn fun i hi=>hno i hi (by omega))
   ·obtain rfl:k=xs.length:=by omega
    (have hWf:=w5 @h1 @hb1 @h17 @h18 @h19;repeat' (first|refine zS ?_|refine zI ?_ ?_|((with_reducible apply xc);refine zG (Qx xs (by omega) (fun x hx=>by have:=hkl x hx;omega) xs.length 0 (by omega) (by omega)) ?_)|refine zU (Qx xs (by omega) (fun x hx=>by have:=hkl x hx;omega) xs.length 0 (by omega) (by omega)) ?_|exact zF0|refine zD fun hb=>?_|exact zC|refine zT ?_|fail))
    refine sB ?_;have hall:(List.finRange xs.length).all (fun i=>yC xs i.1 i.2)=true:=VU.2 fun i=>hg i.1 i.2 i.2
    unfold patM;rw [hall,decide_eq_true h6,decide_eq_true h7,Uv];unfold xZ;rw [X4];rfl
 ·have hb:patM xs=false:=by
   unfold patM
   by_cases q:1<=xs.length
   ·rw [decide_eq_false (p:=xs.length<=600) (by omega)];simp
   ·rw [decide_eq_false q];simp
  rw [hb];refine FI PM Tryz.func35 Tryz.ntmps35 [(11,21,[],[],(lin [] [0,1,2,3,4,5,6,7,8,9,10,11,12,13,14,15,16,17,18,19,20])),(14,5,[],[],(lin [] [0,1,2,3,4]))] rfl rfl ?_
  by_cases q:xs.length<1
  ·have e1:decide ((xs.length:Int)<1)=true:=decide_eq_true (by omega)
   (have hWf:=w1 @e1;repeat' (first|refine zS ?_|refine zI ?_ ?_|exact zF0|refine zD fun hb=>?_|exact zC|refine zT ?_|fail))
  ·have e1:decide ((xs.length:Int)<1)=false:=decide_eq_false (by omega)
   have e2:decide ((xs.length:Int)>600)=true:=decide_eq_true (by omega)
   (have hWf:=w2 @e1 @e2;repeat' (first|refine zS ?_|refine zI ?_ ?_|exact zF0|refine zD fun hb=>?_|exact zC|refine zT ?_|fail))
theorem WT(xs:List DPNode)(ho:∀ x∈xs,x.ok)(hs:smS DPNode.sm xs):FT 46 [.ag [.sl 4 (xs.map DPNode.enc)]] (fun r _=>r=.s (.bool (patM xs))):=by
 have hl:=hs.1;have hkl:∀ x∈xs,x.kids.length<=1048576:=fun x hx=>(hs.2 x hx).2.1
 refine FI PM Tryz.func46 Tryz.ntmps46 [] rfl rfl ?_
 (refine xj ?_;simp only [go_sem,simprocAttr];(have hWf:=f0;repeat' (first|refine zY ?_|refine zI ?_ ?_|exact zF1|refine zD fun hb=>?_|exact zC|refine zT ?_|fail)))
 refine y8 1 (.box [.sl 4 (xs.map DPNode.enc)]) (by simp only [go_sem,simprocAttr]) rfl ?_
 (have hWf:=f0;repeat' (first|refine zS ?_|refine zI ?_ ?_|refine zK (yy xs.length 1 600) ?_|((with_reducible apply xc);refine zG (Vb xs ho (by omega) (fun x hx=>by have:=hkl x hx;omega)) ?_)|refine zU (Vb xs ho (by omega) (fun x hx=>by have:=hkl x hx;omega)) ?_|exact zF0|refine zD fun hb=>?_|exact zC|refine zT ?_|fail))
 ·refine sB ?_
  unfold patM;rcases hb with (hb|hb)|hb
  ·rw [decide_eq_false (by omega:¬ 1<=xs.length)];rfl
  ·rw [decide_eq_false (by omega:¬ xs.length<=600)];simp
  ·rw [hb];simp
 ·obtain ⟨⟨h6,h7⟩,hord⟩:(1<=xs.length/\xs.length<=600)/\xZ (yR xs)=true:=by
   exact ⟨⟨by omega,by omega⟩,hb.2⟩
  refine xd (fun n σ=>∃ (k:Nat) (ns:List ByteArray),k<=xs.length/\n=xs.length - k/\NamesAt xs k ns/\σ.t 1=.pt [.sl 4 (xs.map DPNode.enc)]/\σ.t 3=.bs 19 1 ns.length/\σ.b 19=some (.arr 9 1 (ns.map stE))/\σ.t 21=.sl 4 (xs.map DPNode.enc)/\σ.t 22=.s (.int .i64 xs.length)/\σ.t 23=.s (.int .i64 k)/\∀ j (hj:j<xs.length),j<k->yC xs j hj=true) xs.length ⟨0,[],by omega,by omega,NamesAt.zero xs,?_⟩ ?_
  ·simp only [go_sem,simprocAttr,Int.natCast_zero]
   simp
  ·rintro n σ ⟨k,ns,hk,rfl,hns,h1,h3,hb3,h21,h22,h23,hg⟩ K' hK
   have hnl:=hns.1
   by_cases hlt:k<xs.length
   ·have hx:=xb DPNode.enc xs k hlt
    have he:=DPNode.enc_eq xs[k];have hmem:=List.getElem_mem hlt;have hn:=xb4 xs xs[k] (ho _ hmem) (hkl _ hmem) (fun h1=>order_inP hord k hlt h1)
    cases hpn:zy xs xs[k] with
    | false=>
     rw [hpn] at hn
     (have hWf:=w9 @h1 @h3 @hb3 @h21 @h22 @h23 @hx @he @zo;repeat' (first|refine zS ?_|refine zI ?_ ?_|refine zK hn ?_|refine zK (yL ns xs[k].s) ?_|exact zF0|refine zD fun hb=>?_|exact zC|refine zT ?_|fail))
     all_goals exact sB (Y8 hlt (W5 hlt hpn)).symm
    | true=>
     rw [hpn] at hn
     cases h2:(xs[k].kind==2) with
     | false=>
      have h2':xs[k].kind≠2:=by simpa using h2
      (have hWf:=w10 @h1 @h3 @hb3 @h21 @h22 @h23 @hx @he @h2 @zo;repeat' (first|refine zS ?_|refine zI ?_ ?_|refine zK hn ?_|refine zK (yL ns xs[k].s) ?_|exact zF0|refine zD fun hb=>?_|exact zC|refine zT ?_|fail))
      refine hK (xs.length - (k+1)) _ (by omega) ⟨k+1,ns,by omega,rfl,hns.skip hlt h2',?_⟩
      simp only [go_sem,simprocAttr,h1,h3,hb3,h21,h22,Int.natCast_succ];exact ZN hg hlt (hns.none hlt hpn fun h=>absurd h h2')
     | true=>
      have h2':xs[k].kind=2:=by simpa using h2
      cases hi:inL xs[k].s ns with
      | true=>
       (have hWf:=w10 @h1 @h3 @hb3 @h21 @h22 @h23 @hx @he @h2 (ai @hi<|@zo);repeat' (first|refine zS ?_|refine zI ?_ ?_|refine zK hn ?_|refine zK (yL ns xs[k].s) ?_|exact zF0|refine zD fun hb=>?_|exact zC|refine zT ?_|fail))
       all_goals exact sB (Y8 hlt (hns.dup hlt h2' hi)).symm
      | false=>
       (have hWf:=w10 @h1 @h3 @hb3 @h21 @h22 @h23 @hx @he @h2 (ai @hi<|@zo);repeat' (first|refine zS ?_|refine zI ?_ ?_|refine zK hn ?_|refine zK (yL ns xs[k].s) ?_|exact zF0|refine zD fun hb=>?_|exact zC|refine zT ?_|fail))
       refine hK (xs.length - (k+1)) _ (by omega) ⟨k+1,ns++[xs[k].s],by omega,rfl,hns.add hlt h2',?_⟩
       simp only [go_sem,simprocAttr,h1,h3,hb3,h21,h22,Int.natCast_succ,List.map_append,List.length_append,stE_eq];exact ZN hg hlt (hns.none hlt hpn fun _=>hi)
   ·obtain rfl:k=xs.length:=by omega
    (have hWf:=w6 @h1 @h3 @hb3 @h21 @h22 @h23;repeat' (first|refine zS ?_|refine zI ?_ ?_|exact zF0|refine zD fun hb=>?_|exact zC|refine zT ?_|fail))
    refine sB ?_;have hall:(List.finRange xs.length).all (fun i=>yC xs i.1 i.2)=true:=VU.2 fun i=>hg i.1 i.2 i.2
    unfold patM;rw [hall,decide_eq_true h6,decide_eq_true h7,hord];rfl
end
section
open Arb
structure PI where
 kind:Int
 n:Int
 s:ByteArray
abbrev PT:=Arb PI
def PI.node(a:PI)(l:List Int):DPNode:=⟨a.kind,a.n,a.s,l⟩
def DPNode.inf(x:DPNode):PI:=⟨x.kind,x.n,x.s⟩
theorem PI.node_inf(x:DPNode):x.inf.node x.kids=x:=rfl
inductive PV(a:PI)(l:List PT):Prop where
 | wild:a.kind=1->l=[]->a.n=0->a.s.toList=[]->PV a l
 | var:a.kind=2->l=[]->a.n=0->yn a.s=true->PV a l
 | int:a.kind=3->l=[] -> -4611686018427387903<=a.n->a.n<=4611686018427387903->a.s.toList=[]->PV a l
 | con0:a.kind=4->l=[]->a.n=0->zW a.s 0 false=true->PV a l
 | cons (b:PI) (x y:PT):a.kind=4->l=[.mk b [x,y]]->a.n=0->b.kind=5->a.s.toList=[58,58]->PV a l
 | con1 (x:PT):a.kind=4->l=[x]->a.n=0->conM a.s.data.toList=true->PV a l
 | pair (x y:PT):a.kind=5->l=[x,y]->a.n=0->a.s.toList=[]->PV a l
 | unit:a.kind=6->l=[]->a.n=0->a.s.toList=[]->PV a l
abbrev okP(t:PT):Prop:=All PV t
theorem pairP_idx{xs:List DPNode}{m:Nat}{b:PI}{l:List PT}(h:At PI.node xs m (.mk b l)):vf xs (idxs m [.mk b l])=(b.kind==5):=by
 obtain ⟨hm,he⟩:=List.getElem?_eq_some_iff.1 h.root;rw [UP xs _ (by simp [idxs]) m hm (by simp [idxs]),he];rfl
theorem shapeM_0'{s:ByteArray}{p:Bool}(h:zW s 0 p=true):zW s 0 false=true:=by
 unfold zW at h ⊢
 split
 ·rfl
 ·rename_i h1
  rw [if_neg h1] at h
  split
  ·rename_i h2;rw [if_pos h2] at h;simp at h
  ·rename_i h2;rw [if_neg h2] at h;exact h
theorem pview_of{xs:List DPNode}(hg:∀ k (h:k<xs.length),zy xs xs[k]=true){m:Nat}{a:PI}{l:List PT}(h:At PI.node xs m (.mk a l)):PV a l:=by
 have np:∀ {m:Nat} {a:PI} {l:List PT},At PI.node xs m (.mk a l)->yE (vf xs (idxs (m+1) l)) (a.node (idxs (m+1) l))=true:=fun h=>by
  obtain ⟨hm,he⟩:=List.getElem?_eq_some_iff.1 h.root;have:=hg _ hm;rw [he] at this
  exact this
 have N:=np h;have hk:=h.kids;unfold yE PI.node at N
 simp only [idxs_len] at N
 have nil:((l.length:Nat):Int)=0->l=[]:=fun h=>List.eq_nil_of_length_eq_zero (by omega)
 split at N
 ·rename_i k
  simp only [Bool.and_eq_true,beq_iff_eq,decide_eq_true_eq,List.isEmpty_iff] at N
  exact .int k (nil N.1.1) N.2.1 N.2.2 N.1.2
 split at N
 ·rename_i k
  simp only [Bool.and_eq_true,beq_iff_eq,decide_eq_true_eq,List.isEmpty_iff] at N
  exact .var k (nil N.1.1) N.1.2 N.2
 split at N
 ·rename_i k
  simp only [Bool.and_eq_true,beq_iff_eq,decide_eq_true_eq,List.isEmpty_iff] at N
  rcases k with k|k
  ·exact .unit k (nil N.1.1) N.1.2 N.2
  ·exact .wild k (nil N.1.1) N.1.2 N.2
 split at N
 ·rename_i k
  simp only [Bool.and_eq_true,beq_iff_eq,decide_eq_true_eq,List.isEmpty_iff] at N
  match l,N.1.1 with
  | [x,y],_=>exact .pair x y k rfl N.1.2 N.2
  | [],h=>simp at h
  | [x],h=>simp at h
  | x::y::z::r,h=>simp at h;omega
 split at N
 ·rename_i k
  simp only [Bool.and_eq_true,beq_iff_eq] at N
  obtain ⟨n0,N⟩:=N
  match l,hk,N with
  | [],_,N=>exact .con0 k rfl n0 (shapeM_0' N)
  | [.mk b r],hk,N=>
   rw [pairP_idx hk.head] at N
   unfold zW at N
   split at N
   ·simp at N
   ·split at N
    ·rename_i hs
     simp only [List.length_singleton,Bool.and_eq_true,beq_iff_eq] at N hs
     have N2:=np hk.head;unfold yE PI.node at N2
     simp only [N.2,idxs_len,Int.reduceEq,if_false,if_true,or_self,reduceIte,Bool.and_eq_true,beq_iff_eq,List.isEmpty_iff] at N2
     match r,N2.1.1 with
     | [x,y],_=>exact .cons b x y k rfl n0 N.2 hs
     | [],h=>simp at h
     | [x],h=>simp at h
     | x::y::z::r,h=>simp at h;omega
    ·simp only [Bool.and_eq_true] at N
     exact .con1 _ k rfl n0 N.1
  | x::y::r,hk,N=>
   exfalso
   unfold zW at N
   simp only [List.length_cons] at N
   split at N
   ·simp at N;(try omega)
   ·split at N
    ·simp at N;(try omega)
    ·simp at N;(try omega)
 ·cases N
theorem ptree_of{xs:List DPNode}(h:patM xs=true):∃ t:PT,xs=Arb.lay PI.node 0 t/\okP t/\t.size<=600:=by
 unfold patM at h
 simp only [Bool.and_eq_true,decide_eq_true_eq] at h
 obtain ⟨⟨⟨h1,h2⟩,h3⟩,h4⟩:=h;obtain ⟨t,ht⟩:=grow_all (f:=PI.node) (ks:=fun n:DPNode=>n.kids) (inf:=DPNode.inf) PI.node_inf h4
 refine ⟨t,ht,?_,?_⟩
 ·have:=At.zero (f:=PI.node) t
  rw [<- ht] at this
  refine all_of t 0 this fun j x l hj=>pview_of (fun k hk=>?_) hj
  have:=VU.1 h3 ⟨k,hk⟩;unfold yC at this
  simp only [Bool.and_eq_true] at this
  exact this.1
 ·have:=congrArg List.length ht
  rw [Arb.lay_len] at this
  omega
theorem XG{xs:List DPNode}(h:patM xs=true):1<=xs.length/\xs.length<=600:=by
 unfold patM at h
 simp only [Bool.and_eq_true,decide_eq_true_eq] at h
 exact h.1.1
end
section
open Go.RowKit Arb
mutual
def pxO:PT->D
 | .mk a l=>.opt [.s (.int .i64 a.kind),.s (.int .i64 a.n),.s (.string a.s),.osl 96 1 (pxOL l)]
def pxOL:List PT->List (List D)
 | []=>[]
 | t::l=>[pxO t]::pxOL l
end
mutual
def pxE:PT->D
 | .mk a l=>.pt [.s (.int .i64 a.kind),.s (.int .i64 a.n),.s (.string a.s),.sl 1 (pxEL l)]
def pxEL:List PT->List (List D)
 | []=>[]
 | t::l=>[pxE t]::pxEL l
end
def pxR(t:PT):List D:=[pxO t]
def pxS(t:PT):List D:=[pxE t]
theorem pxOL_map(l:List PT):pxOL l=l.map pxR:=by
 induction l with
 | nil=>rfl
 | cons t l ih=>rw [pxOL,ih];rfl
theorem pxEL_map(l:List PT):pxEL l=l.map pxS:=by
 induction l with
 | nil=>rfl
 | cons t l ih=>rw [pxEL,ih];rfl
theorem Vu(a:PI)(l:List PT):pxO (.mk a l)=.opt [.s (.int .i64 a.kind),.s (.int .i64 a.n),.s (.string a.s),.osl 96 1 (l.map pxR)]:=by rw [pxO,pxOL_map]
theorem xX(a:PI)(l:List PT):pxE (.mk a l)=.pt [.s (.int .i64 a.kind),.s (.int .i64 a.n),.s (.string a.s),.sl 1 (l.map pxS)]:=by rw [pxE,pxEL_map]
theorem yK(a:PI)(l:List PT):pxS (.mk a l)=[.pt [.s (.int .i64 a.kind),.s (.int .i64 a.n),.s (.string a.s),.sl 1 (l.map pxS)]]:=by show [pxE _]=_;rw [xX]
theorem px_frz:∀ t:PT,frz (pxO t)=pxE t:=fun t=>by
 induction t using Arb.ind with
 | h a l ih=>
  rw [Vu,xX];have:xu (l.map pxR)=l.map pxS:=by
   rw [xI,List.map_map];refine List.map_congr_left fun x hx=>?_
   show frzL (pxR x)=pxS x;simp only [pxR,pxS,frzL,ih x hx]
  simp only [frz,frzL,this,List.drop_zero]
theorem frA_px(t:PT):frA (pxO t)=pxE t:=by
 obtain ⟨a,l⟩:=t;rw [<- px_frz,Vu];rfl
theorem vX(a:PI)(l:List Int):(a.node l).enc=[.s (.int .i64 a.kind),.s (.int .i64 a.n),.s (.string a.s),.sl 1 (l.map iE)]:=rfl
theorem XI{nodes:List DPNode}{m:Nat}{a:PI}{l:List PT}(h:At PI.node nodes m (.mk a l)):(nodes.map DPNode.enc).getD m []=(a.node (idxs (m+1) l)).enc:=by
 obtain ⟨hm,hr⟩:=List.getElem?_eq_some_iff.1 h.root;rw [xb DPNode.enc nodes m hm,hr]
theorem xcp(nodes:List DPNode)(hl:nodes.length<=1000000):∀ (t:PT) (m:Nat),At PI.node nodes m t->FT 48 [.sl 4 (nodes.map DPNode.enc),.s (.int .i64 m)] (fun r _=>r=pxO t):=fun t=>by
 induction t using Arb.ind with
 | h a l ih=>
  intro m hA;have hm:=hA.lt;have hx:=XI hA;have he:=vX a (idxs (m+1) l);have hil:=idxs_len (m+1) l;have hll:l.length<=1000000:=by
   have h1:=hA.bd;have h2:=sizeL_len l;rw [size_mk] at h1
   omega
  rw [Vu];refine FI PM Tryz.func48 Tryz.ntmps48 [(6,10,[7,8,9],[(7,0),(7,1),(7,2),(7,3),(7,4),(8,0),(8,1),(8,2),(8,3),(8,4),(9,0)],(lin [7,8,9] [0,1,2,3,4,5,6,7,8,9]))] rfl rfl ?_
  (have hWf:=w3 @hx @he @hil;repeat' (first|refine zS ?_|refine zI ?_ ?_|exact zF0|refine zD fun hb=>?_|exact zC|refine zT ?_|fail))
  refine vQ (Yt 20 3 777 (row:=[.s (.int .i64 a.kind),.s (.int .i64 a.n),.s (.string a.s),.nil]) 96 1 (by simp only [go_sem,simprocAttr]) rfl (by decide) rfl (xj ?_))
  simp only [go_sem,simprocAttr];refine xd (fun n σ=>∃ k:Nat,k<=l.length/\n=l.length - k/\σ.t 0=.sl 4 (nodes.map DPNode.enc)/\σ.t 6=.bx 20 0/\σ.t 22=.sl 1 ((idxs (m+1) l).map iE)/\σ.t 23=.s (.int .i64 l.length)/\σ.t 24=.s (.int .i64 k) /\
   σ.b 20=some (.box [.s (.int .i64 a.kind),.s (.int .i64 a.n),.s (.string a.s),.bs 777 1 k])/\σ.b 777=some (.arr 96 1 ((l.take k).map pxR))) l.length ⟨0,by omega,by omega,?_⟩ ?_
  ·simp only [go_sem,simprocAttr,Int.natCast_zero,List.take_zero]
  ·rintro n σ ⟨k,hk,rfl,h0,h6,h27,h28,h29,b25,b7⟩ K' hK
   by_cases hlt:k<l.length
   ·have hlt2:k<(idxs (m+1) l).length:=by rw [hil];exact hlt
    have hx2:=xb iE (idxs (m+1) l) k hlt2;have he2:iE (idxs (m+1) l)[k]=[.s (.int .i64 ((m+1+sizeL (l.take k):Nat):Int))]:=by rw [idxs_at (m+1) l k hlt];rfl
    have hg:=ih l[k] (List.getElem_mem hlt) _ (hA.kids.at k hlt)
    obtain ⟨b,r,hbr⟩:∃ b r,l[k]=.mk b r:=⟨_,_,Arb.eta _⟩;have hex:pxR l[k]=[pxO l[k]]:=rfl;rw [hbr,Vu] at hg hex
    have htl:(l.take k).length=k:=by rw [List.length_take];omega
    have hts:=List.take_succ_eq_append_getElem hlt
    (have hWf:=w10 @h0 @h6 @h27 @h28 @h29 @b25 @b7 @hx2 @he2 (ai @hil<|@htl);repeat' (first|refine zS ?_|refine zI ?_ ?_|refine zX (FCon.noout hg) ?_|((with_reducible apply xc);refine zG (hg) ?_)|exact zF0|refine zD fun hb=>?_|exact zC|refine zT ?_|fail))
    refine hK (l.length - (k+1)) _ (by omega) ⟨k+1,by omega,rfl,?_⟩
    simp only [go_sem,simprocAttr,h0,h6,h27,h28,h29,b25,b7,Int.natCast_succ,hts,List.map_append,hbr,hex]
   ·obtain rfl:k=l.length:=by omega
    rw [List.take_length] at b7
    (have hWf:=w7 @h0 @h6 @h27 @h28 @h29 @b25 @b7;repeat' (first|refine zS ?_|refine zI ?_ ?_|exact zF0|refine zD fun hb=>?_|exact zC|refine zT ?_|fail))
theorem Qu(nodes:List DPNode)(hl:nodes.length<=1000000)(t:PT)(m:Nat)(hA:At PI.node nodes m t):FT 48 [.sl 4 (nodes.map DPNode.enc),.s (.int .i64 m)] (fun r _=>r=pxE t):=
 FCon.ice ((xcp nodes hl t m hA).mono fun r _ e=>by subst e;exact frA_px t)
end
section
open Go.RowKit
theorem grow_g(w:World)(k:Nat)(h0:0<k)(hk:k<=1000000000) :
  Calls Tryz.prog 147 #[.slice none 0 0,.int .i64 k] w fun e w'=>
   ∃ cs:Array Value,cs.size=grownCap w k 0 143*3/\k<=grownCap w k 0 143/\e=.returned (.slice (some ⟨w.heap.size,0,none⟩) 0 (grownCap w k 0 143))/\w'=w.drew.alloc (.cells cs 143):=by
 obtain ⟨ht,i,zv,hi,hz,hsz,hby,hzs,hk0,hz1,-,-⟩:=zF tk_29;have hge:=grownCap_ge w k 0 143;obtain ⟨cs,hcs,hrun⟩:∃ cs:Array Value,cs.size=grownCap w k 0 143*3/\∀ ty,(Builtin.append_ #[29,3] ty #[.slice none 0 0,.int .i64 k]).run Tryz.prog w=.ok (.slice (some ⟨w.heap.size,0,none⟩) k (grownCap w k 0 143)) (w.drew.alloc (.cells cs 143)):=by
  refine ⟨Builtin.zeroCells zv.cells k++Builtin.zeroCells zv.cells (grownCap w k 0 143 - k),?_,fun ty=>?_⟩
  ·rw [Array.size_append,size_zeroCells,size_zeroCells,hzs]
   omega
  ·have:=Lib.run_append_nil_zeros (P:=Tryz.prog) w 29 3 ty _ i zv .i64 .i64 ht rfl hi hz k h0 (by rw [hsz];omega) (by omega) (by rw [hby];omega)
   simpa using this
 refine (?_:Calls Tryz.prog 147 _ w fun e w'=>e=.returned (.slice (some ⟨w.heap.size,0,none⟩) 0 (grownCap w k 0 143))/\w'=w.drew.alloc (.cells cs 143)).mono fun e w' h=>⟨cs,hcs,hge,h.1,h.2⟩
 go_enter Tryz.func147,Tryz.ntmps147
 have hn:((k:Int)<0)=False:=by simp
 go_wp2_with (at_builtin;refine Lib.wpList_append_run _ rfl _ _ _ _ rfl _ _ rfl rfl _ _ (hrun _) ?_)
 go_ret
 exact ⟨rfl,rfl⟩
theorem grow_0(w:World) :
  Calls Tryz.prog 147 #[.slice none 0 0,.int .i64 0] w fun e w'=>e=.returned (.slice none 0 0)/\w'=w:=by
 go_enter Tryz.func147,Tryz.ntmps147
 go_wp2_with fail
 go_ret
 exact ⟨rfl,rfl⟩
theorem c_Grow(k:Nat)(hk:k<=1000000000) :
  FT 147 [.nil,.s (.int .i64 k)] (fun r _=>r=.osl 143 3 []):=by
 refine ⟨fun vs w=>?_,fun w g vs hS hu hlen hv=>?_⟩
 ·have h1:=Tryz.func147
  have hname':¬ Tryz.f147.name = "runtime.NumGoroutine" := by decide
  have hbn:¬ Tryz.f147.body=none:=by decide
  simp [callFunc,h1,hname',hbn]
 ·obtain ⟨v0,v1,rfl⟩:∃ v0 v1,vs=[v0,v1]:=by
   match vs,hlen with
   | [a,b],_=>exact ⟨a,b,rfl⟩
  have h0:Rep g.S g.up w (some (.par 0 0)) .nil v0:=hv 0 _ v0 rfl rfl;have h1:Rep g.S g.up w (some (.par 1 0)) (.s (.int .i64 k)) v1:=hv 1 _ v1 rfl rfl;have h1:=Rep.s_inv h1;subst h1;obtain rfl:v0=.slice none 0 0:=by cases h0;rfl
  have hout:∀ (g':Gh) (w':World) (j:Nat) (d:D) (u:Value),[D.un,D.un][j]?=some d->[Value.slice none 0 0,Value.int .i64 k][j]?=some u->RU g' w' j d u:=fun g' w' j d u q1 q2=>by
   match j,q1 with
   | 0,q1=>
     have q1:D.un=d:=by simpa using q1
     subst q1;trivial
   | 1,q1=>
     have q1:D.un=d:=by simpa using q1
     subst q1;trivial
   | j+2,q1=>simp at q1
  cases k with
  | zero=>
   refine (grow_0 w).mono ?_
   rintro e w' ⟨rfl,rfl⟩
   refine ⟨_,g,.osl 143 3 [],[.un,.un],rfl,Below.refl _ _,fun _ _ _=>rfl,fun _ q=>q,fun _ _ q=>.inl q,hS,fun b p hp=>⟨(hu b p hp).1,fun _=>(by rw [hp];simp),(hu b p hp).2⟩,rfl,?_,hout _ _⟩
   show Rep g.S g.up w' (some (.ans 0 0)) _ _;exact .osl0
  | succ k=>
   refine (grow_g w (k+1) (by omega) hk).mono ?_
   rintro e w' ⟨cs,m1,m2,rfl,rfl⟩
   let up':Nat->Option Pos:=fun b0=>if b0=w.heap.size then some (.ans 0 0) else g.up b0
   have hsz:(w.drew.alloc (.cells cs 143)).heap.size=w.heap.size+1:=by simp
   have hlt:∀ b0,g.S b0->b0≠w.heap.size:=fun b0 q=>Nat.ne_of_lt (hS b0 q)
   have hold:∀ b0,b0<w.heap.size->(w.drew.alloc (.cells cs 143)).heap[b0]?=w.heap[b0]?:=fun b0 q=>by
    show (w.heap.push _)[b0]?=_;rw [Array.getElem?_push_lt q,Array.getElem?_eq_getElem q]
   refine ⟨_,⟨g.β,g.κ,up',g.S⟩,.osl 143 3 [],[.un,.un],rfl,?_,fun b0 q _=>hold b0 q,fun _ q=>q,fun _ _ q=>.inl q,fun b0 q=>(by rw [hsz];have:=hS b0 q;omega),fun b0 p hp=>?_,rfl,?_,hout _ _⟩
   ·exact Below.alloc (Below.refl _ _).drew (Nat.zero_le _) _
   ·have hp:up' b0=some p:=hp
    simp only [up'] at hp
    rw [hsz];split at hp
    ·subst_vars
     exact ⟨by omega,fun q=>absurd q (Nat.lt_irrefl _),fun q=>hlt _ q rfl⟩
    ·have:=hu b0 p hp
     exact ⟨by omega,fun _=>(by rw [hp];simp),this.2⟩
   ·show Rep g.S up' _ (some (.ans 0 0)) _ _
    exact .osl (rows:=[]) cs (by simp [up']) (heap_alloc_new w.drew _) (Nat.zero_le _) (grownCap_le_maxLen w (k+1) 0 _ (by unfold maxLen;omega)) m1 (fun i row q=>by simp at q) (fun i j row d q=>by simp at q)
def Yf(ls:List (List TyI)):List (List D):=ls.map fun l=>[.sl 3 (l.map TyI.enc)]
theorem rowsT_len(ls:List (List TyI)):(Yf ls).length=ls.length:=by unfold Yf;rw [List.length_map]
theorem xak(ls:List (List TyI))(k:Nat)(h:k<ls.length):(Yf ls).getD k []=[.sl 3 (ls[k].map TyI.enc)]:=by
 unfold Yf;rw [List.getD_eq_getElem?_getD,List.getElem?_map,List.getElem?_eq_getElem h];rfl
theorem X0{α:Type}(ls:List (List α))(k:Nat)(h:k<ls.length):(ls.take (k+1)).flatten=(ls.take k).flatten++ls[k]:=by
 rw [List.take_succ_eq_append_getElem h,List.flatten_append];simp
theorem Wn{α:Type}(ls:List (List α))(k:Nat):(ls.take k).flatten.length<=ls.flatten.length:=by
 conv=>rhs;rw [<- List.take_append_drop k ls,List.flatten_append,List.length_append]
 omega
theorem xaS(ls:List (List TyI))(hl:ls.length<=1000)(ht:ls.flatten.length<=1000000000):FT 100 [.sl 1 (Yf ls)] (fun r _=>r=.osl 143 3 (ls.flatten.map TyI.own)):=by
 have hll:=rowsT_len ls;refine FI PM Tryz.func100 Tryz.ntmps100 [] rfl rfl ?_
 (have hWf:=w1 @hll;repeat' (first|refine zS ?_|refine zI ?_ ?_|exact zF0|refine zD fun hb=>?_|exact zC|refine zT ?_|fail))
 refine xd (fun n σ=>∃ k:Nat,k<=ls.length/\n=ls.length - k/\σ.t 0=.sl 1 (Yf ls)/\σ.t 3=.s (.int .i64 (ls.take k).flatten.length)/\σ.t 9=.sl 1 (Yf ls)/\σ.t 10=.s (.int .i64 ls.length)/\σ.t 11=.s (.int .i64 k)) ls.length ⟨0,by omega,by omega,?_⟩ ?_
 ·simp only [go_sem,simprocAttr,hll,Int.natCast_zero,List.take_zero,List.flatten_nil,List.length_nil]
  all_goals trace_state
 ·rintro n σ ⟨k,hk,rfl,h0,h3,h9,h10,h11⟩ K' hK
  by_cases hlt:k<ls.length
  ·have hx:=xak ls k hlt
   have e3:=X0 ls k hlt;have e4:=Wn ls (k+1);rw [e3,List.length_append] at e4
   (have hWf:=w7 @h0 @h3 @h9 @h10 @h11 @hx @hll;repeat' (first|refine zS ?_|refine zI ?_ ?_|exact zF0|refine zD fun hb=>?_|exact zC|refine zT ?_|fail))
   refine hK (ls.length - (k+1)) _ (by omega) ⟨k+1,by omega,rfl,?_⟩
   simp only [go_sem,simprocAttr,h0,h3,h9,h10,h11,e3,List.length_append,Int.natCast_add,Int.natCast_succ]
  ·obtain rfl:k=ls.length:=by omega
   rw [List.take_length] at h3
   have hg:=c_Grow ls.flatten.length (by omega)
   (have hWf:=w6 @h0 @h3 @h9 @h10 @h11 @hll;repeat' (first|refine zS ?_|refine zI ?_ ?_|refine zK hg ?_|exact zF0|refine zD fun hb=>?_|exact zC|refine zT ?_|fail))
   refine xd (fun n σ=>∃ k:Nat,k<=ls.length/\n=ls.length - k/\σ.t 6=.bs 1024 3 (ls.take k).flatten.length/\σ.b 1024=some (.arr 143 3 ((ls.take k).flatten.map TyI.own))/\σ.t 25=.sl 1 (Yf ls)/\σ.t 26=.s (.int .i64 ls.length)/\σ.t 27=.s (.int .i64 k)) ls.length ⟨0,by omega,by omega,?_⟩ ?_
   ·simp only [go_sem,simprocAttr,h0,h3,h9,h10,h11,hll,Int.natCast_zero,List.take_zero,List.flatten_nil,List.length_nil,List.map_nil]
    all_goals trace_state
   ·rintro n σ ⟨k,hk,rfl,g6,gb,g25,g26,g27⟩ K' hK
    by_cases hlt:k<ls.length
    ·have hx:=xak ls k hlt
     have e3:=X0 ls k hlt;have e4:=Wn ls (k+1);rw [e3,List.length_append] at e4
     (have hWf:=w7 @g6 @gb @g25 @g26 @g27 @hx @hll;repeat' (first|refine zS ?_|refine zI ?_ ?_|exact zF0|refine zD fun hb=>?_|exact zC|refine zT ?_|fail))
     refine hK (ls.length - (k+1)) _ (by omega) ⟨k+1,by omega,rfl,?_⟩
     simp only [go_sem,simprocAttr,g6,gb,g25,g26,g27,e3,List.length_append,List.map_append,Int.natCast_succ]
     all_goals trace_state
    ·obtain rfl:k=ls.length:=by omega
     rw [List.take_length] at g6 gb
     (have hWf:=w6 @g6 @gb @g25 @g26 @g27 @hll;repeat' (first|refine zS ?_|refine zI ?_ ?_|exact zF0|refine zD fun hb=>?_|exact zC|refine zT ?_|fail))
     all_goals trace_state
end
section
open Go.RowKit Arb
def Ye(ls:List (List PT)):List (List D):=ls.map fun l=>[.sl 1 (l.map pxS)]
theorem rowsP_len(ls:List (List PT)):(Ye ls).length=ls.length:=by unfold Ye;rw [List.length_map]
theorem xaj(ls:List (List PT))(k:Nat)(h:k<ls.length):(Ye ls).getD k []=[.sl 1 (ls[k].map pxS)]:=by
 unfold Ye;rw [List.getD_eq_getElem?_getD,List.getElem?_map,List.getElem?_eq_getElem h];rfl
theorem c_ConcatP(ls:List (List PT))(hl:ls.length<=1000)(ht:ls.flatten.length<=1000000000):FT 116 [.sl 1 (Ye ls)] (fun r _=>r=.osl 96 1 (ls.flatten.map pxS)):=by
 have hll:=rowsP_len ls;refine FI PM Tryz.func116 Tryz.ntmps116 [] rfl rfl ?_
 (have hWf:=w1 @hll;repeat' (first|refine zS ?_|refine zI ?_ ?_|exact zF0|refine zD fun hb=>?_|exact zC|refine zT ?_|fail))
 refine xd (fun n σ=>∃ k:Nat,k<=ls.length/\n=ls.length - k/\σ.t 0=.sl 1 (Ye ls)/\σ.t 3=.s (.int .i64 (ls.take k).flatten.length)/\σ.t 9=.sl 1 (Ye ls)/\σ.t 10=.s (.int .i64 ls.length)/\σ.t 11=.s (.int .i64 k)) ls.length ⟨0,by omega,by omega,?_⟩ ?_
 ·simp only [go_sem,simprocAttr,hll,Int.natCast_zero,List.take_zero,List.flatten_nil,List.length_nil]
  all_goals trace_state
 ·rintro n σ ⟨k,hk,rfl,h0,h3,h9,h10,h11⟩ K' hK
  by_cases hlt:k<ls.length
  ·have hx:=xaj ls k hlt
   have e3:=X0 ls k hlt;have e4:=Wn ls (k+1);rw [e3,List.length_append] at e4
   (have hWf:=w7 @h0 @h3 @h9 @h10 @h11 @hx @hll;repeat' (first|refine zS ?_|refine zI ?_ ?_|exact zF0|refine zD fun hb=>?_|exact zC|refine zT ?_|fail))
   refine hK (ls.length - (k+1)) _ (by omega) ⟨k+1,by omega,rfl,?_⟩
   simp only [go_sem,simprocAttr,h0,h3,h9,h10,h11,e3,List.length_append,Int.natCast_add,Int.natCast_succ]
  ·obtain rfl:k=ls.length:=by omega
   rw [List.take_length] at h3
   have hg:=c_GrowP ls.flatten.length (by omega)
   (have hWf:=w6 @h0 @h3 @h9 @h10 @h11 @hll;repeat' (first|refine zS ?_|refine zI ?_ ?_|refine zK hg ?_|exact zF0|refine zD fun hb=>?_|exact zC|refine zT ?_|fail))
   refine xd (fun n σ=>∃ k:Nat,k<=ls.length/\n=ls.length - k/\σ.t 6=.bs 1024 1 (ls.take k).flatten.length/\σ.b 1024=some (.arr 96 1 ((ls.take k).flatten.map pxS))/\σ.t 25=.sl 1 (Ye ls)/\σ.t 26=.s (.int .i64 ls.length)/\σ.t 27=.s (.int .i64 k)) ls.length ⟨0,by omega,by omega,?_⟩ ?_
   ·simp only [go_sem,simprocAttr,h0,h3,h9,h10,h11,hll,Int.natCast_zero,List.take_zero,List.flatten_nil,List.length_nil,List.map_nil]
    all_goals trace_state
   ·rintro n σ ⟨k,hk,rfl,g6,gb,g25,g26,g27⟩ K' hK
    by_cases hlt:k<ls.length
    ·have hx:=xaj ls k hlt
     have e3:=X0 ls k hlt;have e4:=Wn ls (k+1);rw [e3,List.length_append] at e4
     (have hWf:=w7 @g6 @gb @g25 @g26 @g27 @hx @hll;repeat' (first|refine zS ?_|refine zI ?_ ?_|exact zF0|refine zD fun hb=>?_|exact zC|refine zT ?_|fail))
     refine hK (ls.length - (k+1)) _ (by omega) ⟨k+1,by omega,rfl,?_⟩
     simp only [go_sem,simprocAttr,g6,gb,g25,g26,g27,e3,List.length_append,List.map_append,Int.natCast_succ]
     all_goals trace_state
    ·obtain rfl:k=ls.length:=by omega
     rw [List.take_length] at g6 gb
     (have hWf:=w6 @g6 @gb @g25 @g26 @g27 @hll;repeat' (first|refine zS ?_|refine zI ?_ ?_|exact zF0|refine zD fun hb=>?_|exact zC|refine zT ?_|fail))
     all_goals trace_state
end
section
theorem Xr(xs:List TyI)(k e:Nat)(h:endM xs k=e):k<e/\e<=xs.length/\k<xs.length:=by
 by_cases hk:k<xs.length
 ·rw [XZ xs k hk] at h
  rcases Uw xs (k+1) xs[k].ar.toNat hk with h'|⟨n,h',h1,h2⟩<;>omega
 ·rw [Uu xs k (by omega)] at h;omega
def seg(xs:List TyI)(k e:Nat):List TyI:=(xs.drop k).take (e - k)
theorem seg_cons{xs:List TyI}{k e:Nat}(hk:k<xs.length)(he:k<e):seg xs k e=xs[k]::seg xs (k+1) e:=by
 unfold seg;rw [List.drop_eq_getElem_cons hk,show e - k=(e - (k+1))+1 by omega,List.take_succ_cons]
theorem seg_app{xs:List TyI}{k e1 e:Nat}(h1:k<=e1)(h2:e1<=e)(h3:e<=xs.length):seg xs k e=seg xs k e1++seg xs e1 e:=by
 unfold seg;rw [show e - k=(e1 - k)+(e - e1) by omega,List.take_add,List.drop_drop,show k+(e1 - k)=e1 by omega]
theorem seg_nil(xs:List TyI)(k:Nat):seg xs k k=[]:=by simp [seg]
theorem item_eq{x y:TyI}(h1:x.v=y.v)(h2:x.name.data.toList=y.name.data.toList)(h3:x.ar=y.ar):x=y:=by
 obtain ⟨v,⟨⟨l⟩⟩,a⟩:=x;obtain ⟨u,⟨⟨m⟩⟩,b⟩:=y;simp only at h1 h2 h3
 subst h1 h2 h3
 rfl
end
section
open Go.RowKit
theorem xcG(xs:List TyI)(k m:Nat)(h:k<xs.length):yf xs k (m+1)=yf xs (k+1) (m+xs[k].ar.toNat):=by
 unfold yf;rw [Zv xs k h,scan];cases scan ((arsM xs).drop (k+1)) (m+xs[k].ar.toNat) with
 | none=>rfl
 | some j=>simp;omega
theorem endsM_out(xs:List TyI)(k m:Nat)(h:xs.length<=k):yf xs k (m+1) = -1:=by
 unfold yf;have:(arsM xs).drop k=[]:=List.drop_eq_nil_of_le (by simpa [arsM] using h)
 rw [this];rfl
def itemB(x y:TyI):Bool:=(x.v==y.v)&&((x.name.toList==y.name.toList)&&((x.ar==y.ar)&&true))
theorem itemB_iff(x y:TyI):itemB x y=true ↔ x=y:=by
 constructor
 ·intro h
  unfold itemB at h
  simp only [Bool.and_eq_true,beq_iff_eq] at h
  obtain ⟨h1,h2,h3,-⟩:=h;obtain ⟨v,⟨⟨l⟩⟩,a⟩:=x;obtain ⟨u,⟨⟨m⟩⟩,b⟩:=y;rw [ByteArray.toList_eq,ByteArray.toList_eq] at h2
  simp only at h1 h2 h3
  subst h1 h2 h3
  rfl
 ·rintro rfl
  simp [itemB]
instance:DecidableEq TyI:=fun x y=>decidable_of_iff (itemB x y=true) (itemB_iff x y)
theorem seg_enc(ys:List TyI)(k f:Nat):((ys.map TyI.enc).take f).drop k=(seg ys k f).map TyI.enc:=by unfold seg;rw [List.drop_take,List.map_take,List.map_drop]
theorem Qf{ys:List TyI}{k f:Nat}(h:f<=ys.length):(seg ys k f).length=f - k:=by unfold seg;simp;omega
theorem SubM.frzE_eq(x:SubM):frzL x.enc=x.enc:=by simp only [SubM.enc_eq,frzL,frz]
theorem SubM.frzE(xs:List SubM):xu (xs.map SubM.enc)=xs.map SubM.enc:=x9 SubM.frzE_eq xs
attribute [go_sem] SubM.frzE
theorem c_putI(xs:List TyI)(l:List SubM)(hl:xs.length<=1000000000)(hb0:(putX l xs).length<=2199023255552):FT 102 [.sl 3 (xs.map TyI.enc),.sl 2 (l.map SubM.enc)] (fun r _=>r=.sl 3 ((putX l xs).map TyI.enc)):=FCon.ice ((Xc xs l hl hb0).mono fun r o e=>by
 subst e;simp only [frA,frz,TyI.frzS])
def xE(l:List SubM)(v:Int)(u:List TyI):List SubM:=l.map fun s=>⟨s.v,putX [⟨v,u⟩] s.ty⟩
def cntU(l:List SubM)(v:Int):Nat:=(l.takeWhile fun s=>decide (s.v<v)).length
def xv(l:List SubM)(v:Int)(u:List TyI):List SubM:=insL (xE l v u) (cntU l v) ⟨v,u⟩
def bigU(l:List SubM):Bool:=l.any fun s=>decide (200<s.ty.length)
def xB(l:List SubM)(v:Int)(u:List TyI):List SubM×Int:=if v∈xp u then (l,3) else (xv l v u,if (decide (200<u.length)||bigU (xE l v u))=true then 4 else 0)
theorem yW(l:List SubM)(v:Int)(u:List TyI):(xE l v u).length=l.length:=by simp [xE]
theorem xcN{l:List SubM}{k:Nat}(v:Int)(u:List TyI)(h:k<l.length):xE (l.take (k+1)) v u=xE (l.take k) v u++[⟨l[k].v,putX [⟨v,u⟩] l[k].ty⟩]:=by
 unfold xE;rw [List.take_succ_eq_append_getElem h,List.map_append];rfl
theorem xaR(l:List SubM)(x:SubM):bigU (l++[x])=(bigU l||decide (200<x.ty.length)):=by simp [bigU]
theorem V4(l:List SubM)(v:Int)(u:List TyI)(k:Nat)(h:k<(xE l v u).length):(xE l v u)[k].v=(l[k]'(by rwa [yW] at h)).v:=by simp [xE]
theorem Wi(l:List SubM)(v:Int):cntU l v<=l.length:=(List.takeWhile_prefix _).length_le
theorem VS{l:List SubM}{v:Int}{k:Nat}(h:k<cntU l v)(hk:k<l.length):l[k].v<v:=by
 have h1:l[k]∈l.takeWhile fun s=>decide (s.v<v):=by
  have:=(List.takeWhile_prefix (p:=fun s:SubM=>decide (s.v<v)) (l:=l)).getElem h
  rw [<- this];exact List.getElem_mem h
 have h2:∀ (m:List SubM) (x:SubM),x∈m.takeWhile (fun s=>decide (s.v<v))->x.v<v:=by
  intro m x
  induction m with
  | nil=>simp
  | cons a m ih=>
   rw [List.takeWhile_cons];split
   ·rename_i q
    intro hx;rcases List.mem_cons.1 hx with rfl|hx
    ·simpa using q
    ·exact ih hx
   ·simp
 exact h2 _ _ h1
theorem VR{l:List SubM}{v:Int}(hk:cntU l v<l.length):¬ l[cntU l v].v<v:=by
 intro h;have:=List.takeWhile_append_dropWhile (p:=fun s:SubM=>decide (s.v<v)) (l:=l)
 have h2:l.dropWhile (fun s=>decide (s.v<v))=l.drop (cntU l v):=by
  have e:=congrArg (List.drop (cntU l v)) this;rw [cntU,List.drop_left] at e
  exact e
 have h3:=List.head?_dropWhile_not (fun s:SubM=>decide (s.v<v)) l
 rw [h2,List.head?_drop,List.getElem?_eq_getElem hk] at h3
 simp [h] at h3
theorem uY(u:List TyI):decide ((u.length:Int)>200)=decide (200<u.length):=by rw [Bool.eq_iff_iff];simp;omega
theorem c_spanOfA(ys:List TyI)(hi:∀ y∈ys,0<=y.ar/\y.ar<=2)(hl:ys.length<=1000000)(i e:Nat)(h:endM ys i=e):FT 194 [.sl 3 (ys.map TyI.enc),.s (.int .i64 i)] (fun r _=>r=.s (.int .i64 e)):=by
 have hbd:=Xr ys i e h;refine FI PM Tryz.func194 Tryz.ntmps194 [] rfl rfl ?_
 (have hWf:=f0;repeat' (first|refine zS ?_|refine zI ?_ ?_|exact zF0|refine zD fun hb=>?_|exact zC|refine zT ?_|fail))
 refine xd (fun n σ=>∃ m k:Nat,k<=ys.length/\n=ys.length - k/\σ.t 0=.sl 3 (ys.map TyI.enc)/\σ.t 1=.s (.int .i64 k)/\σ.t 5=.s (.int .i64 m)/\yf ys k m=e/\m<=2*k+1) (ys.length - i) ⟨1,i,by omega,rfl,?_⟩ ?_
 ·simp only [go_sem,simprocAttr,Int.natCast_one]
  all_goals first|exact ⟨by rw [<- ZJ];exact h,by omega⟩|(rw [<- ZJ];exact h)
 ·rintro n σ ⟨m,k,hk,rfl,h0,h1,h5,he,hm⟩ K' hK
  cases m with
  | zero=>
   rw [Xi] at he
   (have hWf:=w4 @h0 @h1 @h5 @Int.natCast_zero;repeat' (first|refine zS ?_|refine zI ?_ ?_|exact zF0|refine zD fun hb=>?_|exact zC|refine zT ?_|fail))
   rw [he]
  | succ m=>
   rcases Nat.lt_or_ge k ys.length with hlt|hge
   ·have hx:=xb TyI.enc ys k hlt
    have hxe:=TyI.enc_eq ys[k];obtain ⟨a0,a1⟩:=hi _ (List.getElem_mem hlt);have e1:decide (((m+1:Nat):Int)>0)=true:=by simp
    rw [xcG ys k m hlt] at he
    (have hWf:=w6 @h0 @h1 @h5 @hx @hxe @e1;repeat' (first|refine zS ?_|refine zI ?_ ?_|exact zF0|refine zD fun hb=>?_|exact zC|refine zT ?_|fail))
    refine hK (ys.length - (k+1)) _ (by omega) ⟨m+ys[k].ar.toNat,k+1,by omega,rfl,?_⟩
    simp only [go_sem,simprocAttr,h0,h1,h5,Int.natCast_succ];exact ⟨xq (by omega),he,by omega⟩
   ·rw [endsM_out ys k m hge] at he
    omega
theorem xcx(ys:List TyI)(hi:∀ y∈ys,0<=y.ar/\y.ar<=2)(hl:ys.length<=1000000)(k f:Nat)(h:endM ys k=f):FT 132 [.ag [.sl 3 (ys.map TyI.enc)],.s (.int .i64 k)] (fun r _=>r=.ag [.osl 143 3 ((seg ys k f).map TyI.own)]):=by
 have hbd:=Xr ys k f h;have hcc:=vp ys.length ys hi (by omega) k (by omega)
 rw [h] at hcc
 have hsg:=seg_enc ys k f;have hsl:=Qf (k:=k) hbd.2.1;refine FI PM Tryz.func132 Tryz.ntmps132 [(1,8,[0],[(0,1),(0,2),(0,3),(0,4),(0,5),(0,6),(0,7)],(lin [0] [1,2,3,4,5,6,7,0]))] rfl rfl ?_
 (have hWf:=w2 @hsg @hsl;repeat' (first|refine zS ?_|refine zI ?_ ?_|refine zK hcc ?_|exact zF0|refine zD fun hb=>?_|exact zC|refine zT ?_|fail))
theorem WU(ys:List TyI)(hi:∀ y∈ys,0<=y.ar/\y.ar<=2)(hl:ys.length<=1000000)(k f:Nat)(h:endM ys k=f):FT 132 [.ag [.sl 3 (ys.map TyI.enc)],.s (.int .i64 k)] (fun r _=>r=.ag [.sl 3 ((seg ys k f).map TyI.enc)]):=FCon.ice ((xcx ys hi hl k f h).mono fun r o e=>by
 subst e;simp only [frA,frzL,frz,TyI.frzS,List.map_cons,List.map_nil])
def wfT(xs:List TyI):Prop:=(∀ x∈xs,0<=x.ar/\x.ar<=2)/\endM xs 0=xs.length
def pN(xs:List TyI)(n:Nat):Nat:=(yf xs 1 n).toNat
def kid(xs:List TyI)(n:Nat):List TyI:=seg xs (pN xs n) (pN xs (n+1))
def kids(xs:List TyI)(m:Nat):List (List TyI):=(List.range m).map (kid xs)
theorem zp{xs:List TyI}(h:wfT xs):0<xs.length:=by
 rcases Nat.eq_zero_or_pos xs.length with q|q
 ·have:=h.2
  rw [Uu xs 0 (by omega),q] at this;cases this
 ·exact q
theorem Qk{xs:List TyI}(h:wfT xs):yf xs 1 (xs[0]'(zp h)).ar.toNat=xs.length:=by rw [<- h.2,XZ xs 0 (zp h)]
theorem ud{xs:List TyI}(h:wfT xs){n:Nat}(hn:n<=(xs[0]'(zp h)).ar.toNat):yf xs 1 n=pN xs n/\1<=pN xs n/\pN xs n<=xs.length:=by
 have hp:=zp h;rcases Uw xs 1 n (by omega) with q|⟨m,q,q1,q2⟩
 ·have:=QI xs 1 n (by omega) _ hn
  rw [Qk h] at this;omega
 ·unfold pN;rw [q];exact ⟨by simp,by simpa using q1,by simpa using q2⟩
theorem Xu{xs:List TyI}(h:wfT xs){n:Nat}(hn:n<(xs[0]'(zp h)).ar.toNat):endM xs (pN xs n)=pN xs (n+1):=by
 rw [<- (ud h (n:=n+1) (by omega)).1]
 exact (Vm xs 1 n _ (ud h (n:=n) (by omega)).1).symm
theorem WB(xs:List TyI):pN xs 0=1:=by unfold pN;rw [Xi];rfl
theorem XE(xs:List TyI)(m:Nat):(kids xs m).length=m:=by simp [kids]
theorem kids_succ(xs:List TyI)(m:Nat):kids xs (m+1)=kids xs m++[kid xs m]:=by unfold kids;rw [List.range_succ,List.map_append];rfl
def kE(xs:List TyI):List D:=[.sl 3 (xs.map TyI.enc)]
theorem kE_eq(xs:List TyI):kE xs=[.sl 3 (xs.map TyI.enc)]:=rfl
theorem xaU(xs:List TyI)(hw:wfT xs)(hl:xs.length<=1000000):FT 151 [.sl 3 (xs.map TyI.enc)] (fun r _=>r=.osl 29 1 ((kids xs (xs[0]'(zp hw)).ar.toNat).map kE)):=by
 have hp:=zp hw;have hx0:=xb TyI.enc xs 0 hp;have he0:=TyI.enc_eq xs[0];have hr:=hw.1 _ (List.getElem_mem hp);have hlp:decide ((0:Int)<xs.length)=true:=by simp;omega
 refine FI PM Tryz.func151 Tryz.ntmps151 [] rfl rfl ?_
 (have hWf:=w3 @hx0 @he0 @hlp;repeat' (first|refine zS ?_|refine zI ?_ ?_|exact zF0|refine zD fun hb=>?_|exact zC|refine zT ?_|fail))
 refine xd (fun n σ=>∃ k:Nat,k<=xs[0].ar.toNat/\n=xs[0].ar.toNat - k/\σ.t 0=.sl 3 (xs.map TyI.enc)/\σ.t 3=.bs 6 1 k/\σ.t 4=.s (.int .i64 (pN xs k))/\σ.t 10=.s (.int .i64 xs[0].ar)/\σ.t 11=.s (.int .i64 k)/\σ.b 6=some (.arr 29 1 ((kids xs k).map kE))) xs[0].ar.toNat ⟨0,by omega,by omega,?_⟩ ?_
 ·simp only [go_sem,simprocAttr,Int.natCast_zero,WB,kids,List.range_zero]
 ·rintro n σ ⟨k,hk,rfl,h0,h3,h4,h10,h11,h6⟩ K' hK
  by_cases hlt:k<xs[0].ar.toNat
  ·have hs:=Xu hw hlt
   have hq:=ud hw (n:=k) (by omega)
   have hq1:=ud hw (n:=k+1) (by omega)
   have hbd:=Xr xs (pN xs k) _ hs;have hsg:=seg_enc xs (pN xs k) (pN xs (k+1));have hkl:=XE xs k
   (have hWf:=w8 @h0 @h3 @h4 @h10 @h11 @h6 @hsg @hkl;repeat' (first|refine zS ?_|refine zI ?_ ?_|refine zK (c_spanOfA xs hw.1 hl (pN xs k) (pN xs (k+1)) hs) ?_|exact zF0|refine zD fun hb=>?_|exact zC|refine zT ?_|fail))
   refine hK (xs[0].ar.toNat - (k+1)) _ (by omega) ⟨k+1,by omega,rfl,?_⟩
   simp only [go_sem,simprocAttr,h0,h3,h4,h10,h11,h6,Int.natCast_succ,kids_succ,List.map_append,kE_eq,kid]
  ·obtain rfl:k=xs[0].ar.toNat:=by omega
   have hkl:=XE xs xs[0].ar.toNat;have htk:List.take xs[0].ar.toNat (List.map kE (kids xs xs[0].ar.toNat))=List.map kE (kids xs xs[0].ar.toNat):=List.take_of_length_le (by rw [List.length_map,XE];exact Nat.le_refl _)
   (have hWf:=w8 @h0 @h3 @h4 @h10 @h11 @h6 @hkl @htk;repeat' (first|refine zS ?_|refine zI ?_ ?_|exact zF0|refine zD fun hb=>?_|exact zC|refine zT ?_|fail))
def zO(f:List SubM->List TyI->List TyI->Option (List SubM×Int))(X Y:List TyI):Nat->Nat->List SubM->Option (List SubM×Int)
 | 0,_,l=>some (l,0)
 | m+1,n,l=>match f l (kid X n) (kid Y n) with
  | none=>none
  | some r=>if r.2=0 then zO f X Y m (n+1) r.1 else some r
def Wp(f:List SubM->List TyI->List TyI->Option (List SubM×Int))(l:List SubM)(X Y:List TyI)(a b:TyI):Option (List SubM×Int):=
 if varB a=true then
  if varB b=true then
   if a.v=b.v then some (l,0) else if a.v<b.v then some (xB l b.v X) else some (xB l a.v Y)
  else some (xB l a.v Y)
 else if varB b=true then some (xB l b.v X)
 else if a.name.toList≠b.name.toList\/a.ar≠b.ar then some (l,2)
 else zO f X Y a.ar.toNat 0 l
def uniM:Nat->List SubM->List TyI->List TyI->Option (List SubM×Int)
 | 0,_,_,_=>none
 | n+1,l,x,y=>match (putX l x)[0]?,(putX l y)[0]? with
  | some a,some b=>Wp (uniM n) l (putX l x) (putX l y) a b
  | _,_=>none
def Zt(P:List SubM->List TyI->List TyI->Prop)(f:List SubM->List TyI->List TyI->Option (List SubM×Int))(X Y:List TyI):Nat->Nat->List SubM->Prop
 | 0,_,_=>True
 | m+1,n,l=>P l (kid X n) (kid Y n)/\∀ l',f l (kid X n) (kid Y n)=some (l',0)->Zt P f X Y m (n+1) l'
structure UStep(l:List SubM)(x y:List TyI):Prop where
 lx:x.length<=1000000
 ly:y.length<=1000000
 ll:l.length<=3000000
 lX:(putX l x).length<=1000000
 lY:(putX l y).length<=1000000
 wX:wfT (putX l x)
 wY:wfT (putX l y)
 rise:l.Pairwise (fun a b=>a.v<b.v)
 out:∀ v,v∈xp (putX l x)\/v∈xp (putX l y)->∀ s∈l,s.v≠v
 sm:∀ s∈l,s.ty.length<=1000000
 smp:∀ (v:Int) (u:List TyI),u=putX l x\/u=putX l y->∀ s∈l,(putX [⟨v,u⟩] s.ty).length<=1000000000
def UOk:Nat->List SubM->List TyI->List TyI->Prop
 | 0,_,_,_=>False
 | n+1,l,x,y=>UStep l x y/\∀ a b,(putX l x)[0]?=some a->(putX l y)[0]?=some b->varB a=false->varB b=false->a.name.toList=b.name.toList->a.ar=b.ar->Zt (UOk n) (uniM n) (putX l x) (putX l y) a.ar.toNat 0 l
theorem YF{x:TyI}(h:varB x=true):(x.name.toList==[])=true:=by unfold varB at h;simpa using h
theorem YE{x:TyI}(h:varB x=false):(x.name.toList==[])=false:=by unfold varB at h;simpa using h
theorem wn(xs:List TyI)(l:List SubM)(hl:xs.length<=1000000000)(hl2:l.length<=3000000)(hu:l.Pairwise (fun a b=>a.v≠b.v))(hb0:(putX l xs).length<=2199023255552):FT 39 [.ag [.sl 3 (xs.map TyI.enc)],.sl 2 (l.map SubM.enc)] (fun r _=>r=.ag [.sl 3 ((putX l xs).map TyI.enc)]):=FCon.ice ((xcu xs l hl hl2 hu hb0).mono fun r o e=>by
 subst e;simp only [frA,frzL,frz,TyI.frzS,List.map_cons,List.map_nil])
def outK(l:List SubM)(v:Int)(u:List TyI)(k:Nat):List SubM:=if k<=cntU l v then (xE l v u).take k else insL ((xE l v u).take k) (cntU l v) ⟨v,u⟩
theorem xbl(l:List SubM)(i:Nat)(x:SubM)(h:i<=l.length):(insL l i x).length=l.length+1:=by
 simp only [insL,List.length_append,List.length_cons,List.length_take,List.length_drop,Nat.min_def];split<;>omega
theorem V5{l:List SubM}{k:Nat}(v:Int)(u:List TyI)(h:k<l.length):(xE l v u).take (k+1)=(xE l v u).take k++[⟨l[k].v,putX [⟨v,u⟩] l[k].ty⟩]:=by
 have h':k<(xE l v u).length:=by rw [yW];exact h
 rw [List.take_succ_eq_append_getElem h']
 congr 2
 simp [xE]
theorem ub{l:List SubM}{k:Nat}(v:Int)(u:List TyI)(h:k<=l.length):((xE l v u).take k).length=k:=by rw [List.length_take,yW];exact Nat.min_eq_left h
theorem UM{l:List SubM}{v:Int}{u:List TyI}{k:Nat}(h:k<=l.length):(outK l v u k).length=if k<=cntU l v then k else k+1:=by
 unfold outK;split
 ·exact ub v u h
 ·rw [xbl _ _ _ (by rw [ub v u h];omega),ub v u h]
theorem Q9{l:List SubM}{v:Int}{u:List TyI}{k:Nat}(h:k<l.length)(hc:k≠cntU l v):outK l v u (k+1)=outK l v u k++[⟨l[k].v,putX [⟨v,u⟩] l[k].ty⟩]:=by
 unfold outK
 by_cases q:k<cntU l v
 ·rw [if_pos (by omega),if_pos (by omega)];exact V5 v u h
 ·rw [if_neg (by omega),if_neg (by omega),insL,insL,V5 v u h,List.take_append_of_le_length (by rw [ub v u (by omega)];omega),List.drop_append_of_le_length (by rw [ub v u (by omega)];omega)]
  simp
theorem outK_at{l:List SubM}{v:Int}{u:List TyI}(h:cntU l v<l.length):outK l v u (cntU l v+1)=(outK l v u (cntU l v)++[⟨v,u⟩])++[⟨l[cntU l v].v,putX [⟨v,u⟩] l[cntU l v].ty⟩]:=by
 unfold outK;rw [if_neg (by omega),if_pos (Nat.le_refl _),insL,V5 v u h,List.take_append_of_le_length (by rw [ub v u (by omega)];omega),List.take_of_length_le (by rw [ub v u (by omega)];omega),List.drop_append_of_le_length (by rw [ub v u (by omega)];omega),List.drop_of_length_le (by rw [ub v u (by omega)];omega)]
 simp
theorem outK_end{l:List SubM}{v:Int}{u:List TyI}(h:cntU l v<l.length):outK l v u l.length=xv l v u:=by
 unfold outK xv;rw [if_neg (by omega),List.take_of_length_le (by rw [yW];exact Nat.le_refl _)]
theorem outK_fin{l:List SubM}{v:Int}{u:List TyI}(h:cntU l v=l.length):outK l v u l.length++[⟨v,u⟩]=xv l v u:=by
 unfold outK xv insL;have e:(xE l v u).length=l.length:=yW l v u;rw [if_pos (by omega),h,List.drop_of_length_le (by omega)]
theorem bigU_ins(l:List SubM)(i:Nat)(x:SubM):bigU (insL l i x)=(decide (200<x.ty.length)||bigU l):=by
 unfold bigU insL;rw [List.any_append,List.any_cons];have:l.any (fun s=>decide (200<s.ty.length))=((l.take i).any (fun s=>decide (200<s.ty.length))||(l.drop i).any (fun s=>decide (200<s.ty.length))):=by
  rw [<- List.any_append,List.take_append_drop]
 rw [this];cases (l.take i).any (fun s=>decide (200<s.ty.length))<;>cases decide (200<x.ty.length)<;>simp
def IceR(d r:D):Prop:=frA r=d
def ansU(r:List SubM×Int):D:=.tup [if r.2=0 then .sl 2 (r.1.map SubM.enc) else .nil,.s (.int .i64 r.2)]
theorem WQ{l:List SubM}{k:Nat}(h:k<l.length)(hn:bigU (l.take k)=false)(hk:decide (200<l[k].ty.length)=false):bigU (l.take (k+1))=false:=by
 rw [List.take_succ_eq_append_getElem h,xaR,hn,hk];rfl
theorem bigU_at{l:List SubM}{k:Nat}(h:k<l.length)(hk:decide (200<l[k].ty.length)=true):bigU l=true:=List.any_eq_true.2 ⟨l[k],List.getElem_mem h,hk⟩
theorem xcv(l:List SubM)(v:Int)(u:List TyI)(hl:l.length<=3000000)(hu:u.length<=1000000)(hp:l.Pairwise (fun a b=>a.v<b.v))(hv0:∀ s∈l,s.v≠v)(hs:∀ s∈l,s.ty.length<=1000000/\(putX [⟨v,u⟩] s.ty).length<=1000000000) :
  FT 131 [.sl 2 (l.map SubM.enc),.s (.int .i64 v),.ag [.sl 3 (u.map TyI.enc)]] (fun r _=>IceR (ansU (xB l v u)) r):=by
 by_cases hv:v∈xp u
 ·have hmem:decide (v∈wb u)=true:=decide_eq_true ((xap u v).2 hv)
  have hbm:xB l v u=(l,3):=by unfold xB;rw [if_pos hv]
  rw [hbm];refine FI PM Tryz.func131 Tryz.ntmps131 [(12,9,[],[],(lin [] [0,1,2,3,4,5,6,7,8]))] rfl rfl ?_
  (have hWf:=w1 @hmem;repeat' (first|refine zS ?_|refine zI ?_ ?_|((with_reducible apply xc);refine zG (XW u (by omega)) ?_)|refine zU (XW u (by omega)) ?_|refine zK (xaV (wb u) v) ?_|exact zF0|refine zD fun hb=>?_|exact zC|refine zT ?_|fail))
  all_goals rfl
 ·have hmem:decide (v∈wb u)=false:=decide_eq_false fun q=>hv ((xap u v).1 q)
  have hbm:xB l v u=(xv l v u,if bigU (xv l v u)=true then 4 else 0):=by unfold xB;rw [if_neg hv,xv,bigU_ins]
  rw [hbm];refine FI PM Tryz.func131 Tryz.ntmps131 [(12,9,[],[],(lin [] [0,1,2,3,4,5,6,7,8]))] rfl rfl ?_
  (have hWf:=w1 @hmem;repeat' (first|refine zS ?_|refine zI ?_ ?_|((with_reducible apply xc);refine zG (XW u (by omega)) ?_)|refine zU (XW u (by omega)) ?_|refine zK (xaV (wb u) v) ?_|exact zF0|refine zD fun hb=>?_|exact zC|refine zT ?_|fail))
  refine vQ (y8 22 (.arr 160 2 [[.s (.int .i64 v),.sl 3 (u.map TyI.enc)]]) (by simp only [go_sem,simprocAttr]) rfl (xj ?_))
  simp only [go_sem,simprocAttr];refine xd (fun n σ=>∃ k:Nat,k<=l.length/\n=l.length - k/\σ.t 1=.s (.int .i64 v)/\σ.t 8=.sl 2 [[.s (.int .i64 v),.sl 3 (u.map TyI.enc)]]/\σ.t 9=.bs 23 2 (outK l v u k).length/\σ.t 10=.s (.bool (decide (cntU l v<k)))/\σ.t 24=.sl 2 (l.map SubM.enc)/\σ.t 25=.s (.int .i64 l.length)/\σ.t 26=.s (.int .i64 k) /\
   σ.b 23=some (.arr 160 2 ((outK l v u k).map SubM.enc))) l.length ⟨0,by omega,by omega,?_⟩ ?_
  ·have e0:outK l v u 0=[]:=by unfold outK;rw [if_pos (Nat.zero_le _)];rfl
   simp only [go_sem,simprocAttr,Int.natCast_zero,e0,List.map_nil,List.length_nil,Nat.not_lt_zero]
  ·rintro n σ ⟨k,hk,rfl,h1,h8,h9,h10,h24,h25,h26,b1⟩ K' hK
   have hcl:=Wi l v
   by_cases hlt:k<l.length
   ·have hx:=xb SubM.enc l k hlt
    have he:=SubM.enc_eq l[k];have hsk:=hs l[k] (List.getElem_mem hlt);have hne:=hv0 l[k] (List.getElem_mem hlt);have cA:=wn l[k].ty [⟨v,u⟩] (by omega) (by simp) (by simp) (by omega)
    have hol:=UM (u:=u) (v:=v) (Nat.le_of_lt hlt);have hol1:=UM (u:=u) (v:=v) (Nat.succ_le_of_lt hlt);have hob:(outK l v u k).length<=3000001:=by rw [hol];split<;>omega
    rcases Nat.lt_trichotomy k (cntU l v) with q|q|q
    ·have e1:decide (cntU l v<k)=false:=decide_eq_false (by omega)
     have e2:decide (cntU l v<k+1)=false:=decide_eq_false (by omega)
     have e3:decide (v<l[k].v)=false:=decide_eq_false (by have:=VS q hlt;omega)
     have hst:=Q9 (u:=u) hlt (by omega:k≠cntU l v)
     (have hWf:=w10 @h1 @h8 @h9 @h10 @h24 @h25 @h26 @b1 @hx (ai @he<|ai @e1<|@e3);repeat' (first|refine zS ?_|refine zI ?_ ?_|refine zK cA ?_|exact zF0|refine zD fun hb=>?_|exact zC|refine zT ?_|fail))
     refine hK (l.length - (k+1)) _ (by omega) ⟨k+1,by omega,rfl,?_⟩
     simp only [go_sem,simprocAttr,h1,h8,h9,h10,h24,h25,h26,b1,Int.natCast_succ,hst,List.map_append,SubM.enc_eq,e1,e2,List.length_append]
    ·subst q
     have e1:decide (cntU l v<cntU l v)=false:=decide_eq_false (by omega)
     have e2:decide (cntU l v<cntU l v+1)=true:=decide_eq_true (by omega)
     have e3:decide (v<l[cntU l v].v)=true:=decide_eq_true (by have:=VR hlt;omega)
     have hst:=outK_at (u:=u) hlt
     (have hWf:=w10 @h1 @h8 @h9 @h10 @h24 @h25 @h26 @b1 @hx (ai @he<|ai @e1<|@e3);repeat' (first|refine zS ?_|refine zI ?_ ?_|refine zK cA ?_|exact zF0|refine zD fun hb=>?_|exact zC|refine zT ?_|fail))
     refine hK (l.length - (cntU l v+1)) _ (by omega) ⟨cntU l v+1,by omega,rfl,?_⟩
     simp only [go_sem,simprocAttr,h1,h8,h9,h10,h24,h25,h26,b1,Int.natCast_succ,hst,List.map_append,SubM.enc_eq,e1,e2,List.length_append,List.append_assoc,Nat.add_assoc]
    ·have e1:decide (cntU l v<k)=true:=decide_eq_true (by omega)
     have e2:decide (cntU l v<k+1)=true:=decide_eq_true (by omega)
     have hst:=Q9 (u:=u) hlt (by omega:k≠cntU l v)
     (have hWf:=w10 @h1 @h8 @h9 @h10 @h24 @h25 @h26 @b1 @hx (ai @he<|@e1);repeat' (first|refine zS ?_|refine zI ?_ ?_|refine zK cA ?_|exact zF0|refine zD fun hb=>?_|exact zC|refine zT ?_|fail))
     refine hK (l.length - (k+1)) _ (by omega) ⟨k+1,by omega,rfl,?_⟩
     simp only [go_sem,simprocAttr,h1,h8,h9,h10,h24,h25,h26,b1,Int.natCast_succ,hst,List.map_append,SubM.enc_eq,e1,e2,List.length_append]
   ·obtain rfl:k=l.length:=by omega
    have hbl:(xv l v u).length=l.length+1:=by unfold xv;rw [xbl _ _ _ (by rw [yW];exact hcl),yW]
    by_cases q:cntU l v<l.length
    ·have e1:decide (cntU l v<l.length)=true:=decide_eq_true q
     rw [outK_end q] at h9 b1
     (have hWf:=w9 @h1 @h8 @h9 @h10 @h24 @h25 @h26 @b1 @e1;repeat' (first|refine zS ?_|refine zI ?_ ?_|exact zF0|refine zD fun hb=>?_|exact zC|refine zT ?_|fail))
     refine xd (fun n σ=>∃ k:Nat,k<=(xv l v u).length/\n=(xv l v u).length - k/\σ.t 9=.bs 23 2 (l.length+1)/\σ.t 63=.bs 23 2 (l.length+1)/\σ.t 64=.s (.int .i64 ((l.length+1:Nat):Int))/\σ.t 65=.s (.int .i64 k)/\σ.b 23=some (.arr 160 2 ((xv l v u).map SubM.enc))/\bigU ((xv l v u).take k)=false) (xv l v u).length ⟨0,by omega,by omega,?_⟩ ?_
     ·simp only [go_sem,simprocAttr,h9,b1,hbl,Int.natCast_zero,List.take_zero]
      all_goals rfl
     ·rintro n σ ⟨k,hk,rfl,h9,h63,h64,h65,b1,hno⟩ K' hK
      by_cases hlt:k<(xv l v u).length
      ·have hx:=xb SubM.enc (xv l v u) k hlt
       have he:=SubM.enc_eq (xv l v u)[k];cases e2:decide (200<(xv l v u)[k].ty.length) with
       | true=>
        have e3:decide (((xv l v u)[k].ty.length:Int)>200)=true:=by rw [uY];exact e2
        (have hWf:=w9 @h9 @h63 @h64 @h65 @b1 @hx @he @e3 @hbl;repeat' (first|refine zS ?_|refine zI ?_ ?_|exact zF0|refine zD fun hb=>?_|exact zC|refine zT ?_|fail))
        all_goals (show _=_;rw [bigU_at hlt e2];rfl)
       | false=>
        have e3:decide (((xv l v u)[k].ty.length:Int)>200)=false:=by rw [uY];exact e2
        (have hWf:=w9 @h9 @h63 @h64 @h65 @b1 @hx @he @e3 @hbl;repeat' (first|refine zS ?_|refine zI ?_ ?_|exact zF0|refine zD fun hb=>?_|exact zC|refine zT ?_|fail))
        refine hK ((xv l v u).length - (k+1)) _ (by omega) ⟨k+1,by omega,rfl,?_⟩
        simp only [go_sem,simprocAttr,h9,h63,h64,h65,b1,Int.natCast_succ];exact WQ hlt hno e2
      ·obtain rfl:k=(xv l v u).length:=by omega
       rw [List.take_length] at hno
       have htk:List.take (l.length+1) (List.map SubM.enc (xv l v u))=List.map SubM.enc (xv l v u):=List.take_of_length_le (by rw [List.length_map,hbl];exact Nat.le_refl _)
       (have hWf:=w7 @h9 @h63 @h64 @h65 @b1 @hbl @htk;repeat' (first|refine zS ?_|refine zI ?_ ?_|exact zF0|refine zD fun hb=>?_|exact zC|refine zT ?_|fail))
       all_goals (show _=_;rw [hno];simp only [ansU,frA,frz,SubM.frzE,List.map_cons,List.map_nil];rfl)
    ·have e1:decide (cntU l v<l.length)=false:=decide_eq_false q
     have hap:=outK_fin (u:=u) (by omega:cntU l v=l.length)
     have hol:=UM (u:=u) (v:=v) (Nat.le_refl l.length);rw [if_pos (by omega)] at hol
     have hap2:List.map SubM.enc (outK l v u l.length)++[[.s (.int .i64 v),.sl 3 (u.map TyI.enc)]]=List.map SubM.enc (xv l v u):=by rw [<- hap,List.map_append];rfl
     (have hWf:=w10 @h1 @h8 @h9 @h10 @h24 @h25 @h26 @b1 @e1 @hol;repeat' (first|refine zS ?_|refine zI ?_ ?_|exact zF0|refine zD fun hb=>?_|exact zC|refine zT ?_|fail))
     refine xd (fun n σ=>∃ k:Nat,k<=(xv l v u).length/\n=(xv l v u).length - k/\σ.t 9=.bs 23 2 (l.length+1)/\σ.t 63=.bs 23 2 (l.length+1)/\σ.t 64=.s (.int .i64 ((l.length+1:Nat):Int))/\σ.t 65=.s (.int .i64 k)/\σ.b 23=some (.arr 160 2 ((xv l v u).map SubM.enc))/\bigU ((xv l v u).take k)=false) (xv l v u).length ⟨0,by omega,by omega,?_⟩ ?_
     ·simp only [go_sem,simprocAttr,h9,b1,hbl,hap2,Int.natCast_zero,List.take_zero]
      all_goals rfl
     ·rintro n σ ⟨k,hk,rfl,h9,h63,h64,h65,b1,hno⟩ K' hK
      by_cases hlt:k<(xv l v u).length
      ·have hx:=xb SubM.enc (xv l v u) k hlt
       have he:=SubM.enc_eq (xv l v u)[k];cases e2:decide (200<(xv l v u)[k].ty.length) with
       | true=>
        have e3:decide (((xv l v u)[k].ty.length:Int)>200)=true:=by rw [uY];exact e2
        (have hWf:=w9 @h9 @h63 @h64 @h65 @b1 @hx @he @e3 @hbl;repeat' (first|refine zS ?_|refine zI ?_ ?_|exact zF0|refine zD fun hb=>?_|exact zC|refine zT ?_|fail))
        all_goals (show _=_;rw [bigU_at hlt e2];rfl)
       | false=>
        have e3:decide (((xv l v u)[k].ty.length:Int)>200)=false:=by rw [uY];exact e2
        (have hWf:=w9 @h9 @h63 @h64 @h65 @b1 @hx @he @e3 @hbl;repeat' (first|refine zS ?_|refine zI ?_ ?_|exact zF0|refine zD fun hb=>?_|exact zC|refine zT ?_|fail))
        refine hK ((xv l v u).length - (k+1)) _ (by omega) ⟨k+1,by omega,rfl,?_⟩
        simp only [go_sem,simprocAttr,h9,h63,h64,h65,b1,Int.natCast_succ];exact WQ hlt hno e2
      ·obtain rfl:k=(xv l v u).length:=by omega
       rw [List.take_length] at hno
       have htk:List.take (l.length+1) (List.map SubM.enc (xv l v u))=List.map SubM.enc (xv l v u):=List.take_of_length_le (by rw [List.length_map,hbl];exact Nat.le_refl _)
       (have hWf:=w7 @h9 @h63 @h64 @h65 @b1 @hbl @htk;repeat' (first|refine zS ?_|refine zI ?_ ?_|exact zF0|refine zD fun hb=>?_|exact zC|refine zT ?_|fail))
       all_goals (show _=_;rw [hno];simp only [ansU,frA,frz,SubM.frzE,List.map_cons,List.map_nil];rfl)
theorem Qy(l:List SubM)(v:Int)(u:List TyI)(hl:l.length<=3000000)(hu:u.length<=1000000)(hp:l.Pairwise (fun a b=>a.v<b.v))(hv0:∀ s∈l,s.v≠v)(hs:∀ s∈l,s.ty.length<=1000000/\(putX [⟨v,u⟩] s.ty).length<=1000000000) :
  FT 131 [.sl 2 (l.map SubM.enc),.s (.int .i64 v),.ag [.sl 3 (u.map TyI.enc)]] (fun r _=>r=ansU (xB l v u)):=FCon.ice ((xcv l v u hl hu hp hv0 hs).mono fun _ _ h=>h)
theorem ansU_z(l:List SubM):ansU (l,0)=.tup [.sl 2 (l.map SubM.enc),.s (.int .i64 0)]:=rfl
theorem uT{r:List SubM×Int}(h:r.2≠0):ansU r=.tup [.nil,.s (.int .i64 r.2)]:=by unfold ansU;rw [if_neg h]
theorem Zu{r:List SubM×Int}(h:r.2=0):ansU r=.tup [.sl 2 (r.1.map SubM.enc),.s (.int .i64 0)]:=by unfold ansU;rw [if_pos h,h]
theorem Vc:∀ (n:Nat) (l:List SubM) (x y:List TyI) (r:List SubM×Int),UOk n l x y->uniM n l x y=some r ->
  FT 81 [.ag [.sl 3 (x.map TyI.enc)],.ag [.sl 3 (y.map TyI.enc)],.sl 2 (l.map SubM.enc)] (fun q _=>q=ansU r)
 | 0,l,x,y,r,h,_=>h.elim
 | n+1,l,x,y,r,h,hr=>by
  obtain ⟨U,hk⟩:=h;have hX:=zp U.wX;have hY:=zp U.wY;have eX:=List.getElem?_eq_getElem hX;have eY:=List.getElem?_eq_getElem hY;have ih:=Vc n;rw [uniM,eX,eY] at hr
  replace hk:=hk _ _ eX eY;simp only at hr
  have hx0:=xb TyI.enc (putX l x) 0 hX;have hy0:=xb TyI.enc (putX l y) 0 hY;have hdif:l.Pairwise (fun a b=>a.v≠b.v):=U.rise.imp fun h=>by omega
  have px:=wn x l (by have:=U.lx;omega) (by have:=U.ll;omega) hdif (by have:=U.lX;omega)
  have py:=wn y l (by have:=U.ly;omega) (by have:=U.ll;omega) hdif (by have:=U.lY;omega)
  have hlx:decide ((0:Int)<(putX l x).length)=true:=by simp;omega
  have hly:decide ((0:Int)<(putX l y).length)=true:=by simp;omega
  have hvX:varB (putX l x)[0]=true->(putX l x)[0].v∈xp (putX l x):=fun h=>(varsM_mem' _ _).2 ⟨_,List.getElem_mem hX,h,rfl⟩
  have hvY:varB (putX l y)[0]=true->(putX l y)[0].v∈xp (putX l y):=fun h=>(varsM_mem' _ _).2 ⟨_,List.getElem_mem hY,h,rfl⟩
  obtain ⟨lX,lY,sm,smp,ll,wX,wY,rise,out⟩:(putX l x).length<=1000000/\(putX l y).length<=1000000/\(∀ s∈l,s.ty.length<=1000000)/\(∀ (v:Int) (u:List TyI),u=putX l x\/u=putX l y->∀ s∈l,(putX [⟨v,u⟩] s.ty).length<=1000000000)/\l.length<=3000000/\wfT (putX l x)/\wfT (putX l y)/\l.Pairwise (fun a b=>a.v<b.v)/\(∀ v,v∈xp (putX l x)\/v∈xp (putX l y)->∀ s∈l,s.v≠v):=⟨U.lX,U.lY,U.sm,U.smp,U.ll,U.wX,U.wY,U.rise,U.out⟩
  generalize hXX:putX l x=X at *
  generalize hYY:putX l y=Y at *
  clear hXX hYY U;obtain ⟨a,ha⟩:∃ a,a=X[0]:=⟨_,rfl⟩;obtain ⟨b,hb0⟩:∃ b,b=Y[0]:=⟨_,rfl⟩;have hea:=TyI.enc_eq a;have heb:=TyI.enc_eq b;rw [<- ha] at hx0 hr hk hvX
  rw [<- hb0] at hy0 hr hk hvY
  unfold Wp at hr
  have bX:varB b=true->FT 131 [.sl 2 (l.map SubM.enc),.s (.int .i64 b.v),.ag [.sl 3 (X.map TyI.enc)]] (fun r _=>r=ansU (xB l b.v X)):=fun h=>Qy l b.v X ll lX rise (out _ (.inr (hvY h))) fun s hs=>⟨sm s hs,smp b.v X (.inl rfl) s hs⟩
  have bY:varB a=true->FT 131 [.sl 2 (l.map SubM.enc),.s (.int .i64 a.v),.ag [.sl 3 (Y.map TyI.enc)]] (fun r _=>r=ansU (xB l a.v Y)):=fun h=>Qy l a.v Y ll lY rise (out _ (.inl (hvX h))) fun s hs=>⟨sm s hs,smp a.v Y (.inr rfl) s hs⟩
  cases hva:varB a with
  | true=>
   have ea:=YF hva;have bY:=bY hva;rw [if_pos hva] at hr
   cases hvb:varB b with
   | true=>
    have eb:=YF hvb;have bX:=bX hvb;rw [if_pos hvb] at hr
    by_cases hvv:a.v=b.v
    ·have e1:(a.v==b.v)=true:=by simpa using hvv
     rw [if_pos hvv] at hr
     obtain rfl:(l,0)=r:=by simpa using hr
     rw [ansU_z];refine FI PM Tryz.func81 Tryz.ntmps81 [(18,12,[7],[],(lin [7] [0,1,2,3,4,5,6,7,8,9,10,11]))] rfl rfl ?_
     (have hWf:=w10 @hx0 @hy0 @hea @heb @hlx @hly @ea @eb @e1 @lit0;repeat' (first|refine zS ?_|refine zI ?_ ?_|refine zK px ?_|refine zK py ?_|exact zF0|refine zD fun hb=>?_|exact zC|refine zT ?_|fail))
    ·have e1:(a.v==b.v)=false:=by simpa using hvv
     rw [if_neg hvv] at hr
     by_cases hvl:a.v<b.v
     ·have e2:decide (a.v>b.v)=false:=decide_eq_false (by omega)
      rw [if_pos hvl] at hr
      obtain rfl:xB l b.v X=r:=by simpa using hr
      by_cases hz:(xB l b.v X).2=0
      ·rw [Zu hz] at bX ⊢
       refine FI PM Tryz.func81 Tryz.ntmps81 [(18,12,[7],[],(lin [7] [0,1,2,3,4,5,6,7,8,9,10,11]))] rfl rfl ?_
       (have hWf:=w10 @hx0 @hy0 @hea @heb @hlx @hly @ea @eb @e1 (ai @e2<|@lit0);repeat' (first|refine zS ?_|refine zI ?_ ?_|refine zK px ?_|refine zK py ?_|refine zK bX ?_|exact zF0|refine zD fun hb=>?_|exact zC|refine zT ?_|fail))
      ·rw [uT hz] at bX ⊢
       refine FI PM Tryz.func81 Tryz.ntmps81 [(18,12,[7],[],(lin [7] [0,1,2,3,4,5,6,7,8,9,10,11]))] rfl rfl ?_
       (have hWf:=w10 @hx0 @hy0 @hea @heb @hlx @hly @ea @eb @e1 (ai @e2<|@lit0);repeat' (first|refine zS ?_|refine zI ?_ ?_|refine zK px ?_|refine zK py ?_|refine zK bX ?_|exact zF0|refine zD fun hb=>?_|exact zC|refine zT ?_|fail))
     ·have e2:decide (a.v>b.v)=true:=decide_eq_true (by omega)
      rw [if_neg hvl] at hr
      obtain rfl:xB l a.v Y=r:=by simpa using hr
      by_cases hz:(xB l a.v Y).2=0
      ·rw [Zu hz] at bY ⊢
       refine FI PM Tryz.func81 Tryz.ntmps81 [(18,12,[7],[],(lin [7] [0,1,2,3,4,5,6,7,8,9,10,11]))] rfl rfl ?_
       (have hWf:=w10 @hx0 @hy0 @hea @heb @hlx @hly @ea @eb @e1 (ai @e2<|@lit0);repeat' (first|refine zS ?_|refine zI ?_ ?_|refine zK px ?_|refine zK py ?_|refine zK bY ?_|exact zF0|refine zD fun hb=>?_|exact zC|refine zT ?_|fail))
      ·rw [uT hz] at bY ⊢
       refine FI PM Tryz.func81 Tryz.ntmps81 [(18,12,[7],[],(lin [7] [0,1,2,3,4,5,6,7,8,9,10,11]))] rfl rfl ?_
       (have hWf:=w10 @hx0 @hy0 @hea @heb @hlx @hly @ea @eb @e1 (ai @e2<|@lit0);repeat' (first|refine zS ?_|refine zI ?_ ?_|refine zK px ?_|refine zK py ?_|refine zK bY ?_|exact zF0|refine zD fun hb=>?_|exact zC|refine zT ?_|fail))
   | false=>
    have eb:=YE hvb;rw [if_neg (by simp [hvb])] at hr
    obtain rfl:xB l a.v Y=r:=by simpa using hr
    by_cases hz:(xB l a.v Y).2=0
    ·rw [Zu hz] at bY ⊢
     refine FI PM Tryz.func81 Tryz.ntmps81 [(18,12,[7],[],(lin [7] [0,1,2,3,4,5,6,7,8,9,10,11]))] rfl rfl ?_
     (have hWf:=w9 @hx0 @hy0 @hea @heb @hlx @hly @ea @eb @lit0;repeat' (first|refine zS ?_|refine zI ?_ ?_|refine zK px ?_|refine zK py ?_|refine zK bY ?_|exact zF0|refine zD fun hb=>?_|exact zC|refine zT ?_|fail))
    ·rw [uT hz] at bY ⊢
     refine FI PM Tryz.func81 Tryz.ntmps81 [(18,12,[7],[],(lin [7] [0,1,2,3,4,5,6,7,8,9,10,11]))] rfl rfl ?_
     (have hWf:=w9 @hx0 @hy0 @hea @heb @hlx @hly @ea @eb @lit0;repeat' (first|refine zS ?_|refine zI ?_ ?_|refine zK px ?_|refine zK py ?_|refine zK bY ?_|exact zF0|refine zD fun hb=>?_|exact zC|refine zT ?_|fail))
  | false=>
   have ea:=YE hva;rw [if_neg (by simp [hva])] at hr
   cases hvb:varB b with
   | true=>
    have eb:=YF hvb;have bX:=bX hvb;rw [if_pos hvb] at hr
    obtain rfl:xB l b.v X=r:=by simpa using hr
    by_cases hz:(xB l b.v X).2=0
    ·rw [Zu hz] at bX ⊢
     refine FI PM Tryz.func81 Tryz.ntmps81 [(18,12,[7],[],(lin [7] [0,1,2,3,4,5,6,7,8,9,10,11]))] rfl rfl ?_
     (have hWf:=w9 @hx0 @hy0 @hea @heb @hlx @hly @ea @eb @lit0;repeat' (first|refine zS ?_|refine zI ?_ ?_|refine zK px ?_|refine zK py ?_|refine zK bX ?_|exact zF0|refine zD fun hb=>?_|exact zC|refine zT ?_|fail))
    ·rw [uT hz] at bX ⊢
     refine FI PM Tryz.func81 Tryz.ntmps81 [(18,12,[7],[],(lin [7] [0,1,2,3,4,5,6,7,8,9,10,11]))] rfl rfl ?_
     (have hWf:=w9 @hx0 @hy0 @hea @heb @hlx @hly @ea @eb @lit0;repeat' (first|refine zS ?_|refine zI ?_ ?_|refine zK px ?_|refine zK py ?_|refine zK bX ?_|exact zF0|refine zD fun hb=>?_|exact zC|refine zT ?_|fail))
   | false=>
    have eb:=YE hvb;rw [if_neg (by simp [hvb])] at hr
    by_cases hnn:a.name.toList=b.name.toList
    ·have e1:(a.name.toList==b.name.toList)=true:=by simpa using hnn
     by_cases har:a.ar=b.ar
     ·have e2:(a.ar != b.ar)=false:=by simpa using har
      rw [if_neg (by simp [hnn,har])] at hr
      replace hk:=hk hva hvb hnn har;have hm2:a.ar.toNat<=2/\0<=a.ar:=by have:=(wX.1 _ (List.getElem_mem hX));rw [<- ha] at this;omega
      have hma:a.ar=(a.ar.toNat:Int):=by omega
      have pnX:=@ud X wX;have pnY:=@ud Y wY;have psX:=@Xu X wX;have psY:=@Xu Y wY;rw [<- ha] at pnX psX
      rw [<- hb0,<- har] at pnY psY
      generalize hm:a.ar.toNat=m at *
      refine FI PM Tryz.func81 Tryz.ntmps81 [(18,12,[7],[],(lin [7] [0,1,2,3,4,5,6,7,8,9,10,11]))] rfl rfl ?_
      (have hWf:=w10 @hx0 @hy0 @hea @heb @hlx @hly @ea @eb @e1 (ai @e2<|@lit0);repeat' (first|refine zS ?_|refine zI ?_ ?_|refine zK px ?_|refine zK py ?_|exact zF0|refine zD fun hb=>?_|exact zC|refine zT ?_|fail))
      refine xd (fun q σ=>∃ (i:Nat) (li:List SubM),i<=m/\q=m - i/\zO (uniM n) X Y (m - i) i li=some r/\Zt (UOk n) (uniM n) X Y (m - i) i li/\σ.t 2=.sl 2 (li.map SubM.enc)/\σ.t 8=.bx 8 0/\σ.t 9=.bx 9 0/\σ.t 10=.bx 10 0/\σ.t 12=.s (.int .i64 (pN X i))/\σ.t 13=.s (.int .i64 (pN Y i))/\σ.t 14=.s (.int .i64 i) /\
       σ.b 8=some (.box [.sl 3 (X.map TyI.enc)])/\σ.b 9=some (.box [.sl 3 (Y.map TyI.enc)])/\σ.b 10=some (.box [.s (.int .i64 a.v),.s (.string a.name),.s (.int .i64 m)])) m ⟨0,l,by omega,by omega,hr,hk,?_⟩ ?_
      ·simp only [go_sem,simprocAttr,Int.natCast_zero,WB,hma,Int.natCast_one]
       all_goals trace_state
      ·rintro q σ ⟨i,li,hi,rfl,hr,hk,h2,h8,h9,h10,h12,h13,h14,b8,b9,b10⟩ K' hK
       by_cases hlt:i<m
       ·obtain ⟨j,hj⟩:∃ j,m - i=j+1:=⟨m - i - 1,by omega⟩
        rw [hj] at hr hk
        rw [zO] at hr
        obtain ⟨k1,k2⟩:=hk;have sX:=psX hlt;have sY:=psY hlt;have cX:=WU X wX.1 lX (pN X i) (pN X (i+1)) sX;have cY:=WU Y wY.1 lY (pN Y i) (pN Y (i+1)) sY;rw [show seg X (pN X i) (pN X (i+1))=kid X i from rfl] at cX
        rw [show seg Y (pN Y i) (pN Y (i+1))=kid Y i from rfl] at cY
        have zX:=vp X.length X wX.1 (by omega) (pN X i) (by omega)
        have zY:=vp Y.length Y wY.1 (by omega) (pN Y i) (by omega)
        rw [sX] at zX
        rw [sY] at zY
        have dX:=pnX (n:=i) hi;have dY:=pnY (n:=i) hi;cases hf:uniM n li (kid X i) (kid Y i) with
        | none=>rw [hf] at hr;cases hr
        | some r1=>
         rw [hf] at hr
         obtain ⟨l1,c1⟩:=r1;have hcall:=ih li (kid X i) (kid Y i) (l1,c1) k1 hf
         by_cases hc:c1=0
         ·subst hc
          rw [ansU_z] at hcall
          simp only [if_true] at hr
          (have hWf:=w10 @h2 @h8 @h9 @h10 @h12 @h13 @h14 @b8 @b9 @b10;repeat' (first|refine zS ?_|refine zI ?_ ?_|refine zK cX ?_|refine zK cY ?_|refine zK zX ?_|refine zK zY ?_|refine Go.Proofs.YtmnokalddmlogaaGreat.zX (FCon.noout hcall) ?_|((with_reducible apply xc);refine zG (hcall) ?_)|exact zF0|refine zD fun hb=>?_|exact zC|refine zT ?_|fail))
          refine hK (m - (i+1)) _ (by omega) ⟨i+1,l1,by omega,rfl,by rw [show m - (i+1)=j by omega];exact hr,by rw [show m - (i+1)=j by omega];exact k2 l1 hf,?_⟩
          simp only [go_sem,simprocAttr,h2,h8,h9,h10,h12,h13,h14,b8,b9,b10,Int.natCast_succ]
         ·have e3:(c1 != 0)=true:=by simp [hc]
          rw [uT (by exact hc)] at hcall
          simp only [hc,if_false] at hr
          obtain rfl:(l1,c1)=r:=by simpa using hr
          rw [uT (by exact hc)]
          (have hWf:=w10 @h2 @h8 @h9 @h10 @h12 @h13 @h14 @b8 @b9 (ai @b10<|@e3);repeat' (first|refine zS ?_|refine zI ?_ ?_|refine zK cX ?_|refine zK cY ?_|refine Go.Proofs.YtmnokalddmlogaaGreat.zX (FCon.noout hcall) ?_|((with_reducible apply xc);refine zG (hcall) ?_)|exact zF0|refine zD fun hb=>?_|exact zC|refine zT ?_|fail))
       ·obtain rfl:i=m:=by omega
        rw [Nat.sub_self,zO] at hr
        obtain rfl:(li,0)=r:=by simpa using hr
        rw [ansU_z]
        (have hWf:=w10 @h2 @h8 @h9 @h10 @h12 @h13 @h14 @b8 @b9 @b10;repeat' (first|refine zS ?_|refine zI ?_ ?_|exact zF0|refine zD fun hb=>?_|exact zC|refine zT ?_|fail))
     ·have e2:(a.ar != b.ar)=true:=by simpa using har
      rw [if_pos (.inr har)] at hr
      obtain rfl:(l,2)=r:=by simpa using hr
      rw [uT (by simp)]
      refine FI PM Tryz.func81 Tryz.ntmps81 [(18,12,[7],[],(lin [7] [0,1,2,3,4,5,6,7,8,9,10,11]))] rfl rfl ?_
      (have hWf:=w10 @hx0 @hy0 @hea @heb @hlx @hly @ea @eb @e1 (ai @e2<|@lit0);repeat' (first|refine zS ?_|refine zI ?_ ?_|refine zK px ?_|refine zK py ?_|exact zF0|refine zD fun hb=>?_|exact zC|refine zT ?_|fail))
    ·have e1:(a.name.toList==b.name.toList)=false:=by simpa using hnn
     rw [if_pos (.inl hnn)] at hr
     obtain rfl:(l,2)=r:=by simpa using hr
     rw [uT (by simp)]
     refine FI PM Tryz.func81 Tryz.ntmps81 [(18,12,[7],[],(lin [7] [0,1,2,3,4,5,6,7,8,9,10,11]))] rfl rfl ?_
     (have hWf:=w10 @hx0 @hy0 @hea @heb @hlx @hly @ea @eb @e1 @lit0;repeat' (first|refine zS ?_|refine zI ?_ ?_|refine zK px ?_|refine zK py ?_|exact zF0|refine zD fun hb=>?_|exact zC|refine zT ?_|fail))
theorem Zk:∀ (A B:List Nat) (m n:Nat),scan A m=some A.length->scan (A++B) (m+n)=(scan B n).map (· + A.length)
 | [],B,0,n,_=>by simp
 | [],B,m+1,n,h=>by cases h
 | a::A,B,0,n,h=>by rw [zh] at h;simp at h
 | a::A,B,m+1,n,h=>by
  rw [scan] at h
  cases e:scan A (m+a) with
  | none=>rw [e] at h;cases h
  | some j=>
   rw [e] at h
   have hj:j=A.length:=by simpa using h
   subst hj;rw [List.cons_append,show m+1+n=(m+n)+1 by omega,scan,show m+n+a=(m+a)+n by omega,Zk A B (m+a) n e,Option.map_map]
   cases scan B n with
   | none=>rfl
   | some k=>simp [Function.comp_def];omega
theorem xam:∀ (L:List Nat) (m k:Nat),scan L m=some k->scan (L.take k) m=some k
 | L,0,k,h=>by rw [zh] at h;injection h with h;subst h;rw [zh]
 | [],m+1,k,h=>by cases h
 | a::L,m+1,k,h=>by
  rw [scan] at h
  cases e:scan L (m+a) with
  | none=>rw [e] at h;cases h
  | some j=>
   rw [e] at h
   have hj:j+1=k:=by simpa using h
   subst hj;rw [List.take_succ_cons,scan,xam L _ j e];rfl
theorem Ue(a b:List TyI):arsM (a++b)=arsM a++arsM b:=List.map_append
theorem Xy(a:List TyI):(arsM a).length=a.length:=List.length_map _
def rowT(m:Nat)(xs:List TyI):Prop:=scan (arsM xs) m=some xs.length
theorem xbJ(xs:List TyI):rowT 1 xs ↔ endM xs 0=xs.length:=by
 unfold rowT endM;rw [List.drop_zero];cases scan (arsM xs) 1 with
 | none=>simp
 | some j=>simp<;>omega
theorem Zf{m n:Nat}{a b:List TyI}(h1:rowT m a)(h2:rowT n b):rowT (m+n) (a++b):=by
 unfold rowT at *
 rw [Ue,Zk _ _ _ _ (by rw [h1,Xy]),h2,Xy,List.length_append]
 simp;omega
structure wfV(xs:List TyI):Prop where
 row:rowT 1 xs
 ar:∀ x∈xs,0<=x.ar/\x.ar<=2
 var:∀ x∈xs,varB x=true->x.ar=0
theorem wfV.wfT{xs:List TyI}(h:wfV xs):wfT xs:=⟨h.ar,(xbJ xs).1 h.row⟩
theorem wfV.pos{xs:List TyI}(h:wfV xs):0<xs.length:=zp h.wfT
theorem wQ(l:List SubM)(a b:List TyI):putX l (a++b)=putX l a++putX l b:=List.flatMap_append
theorem xG(l:List SubM)(x:TyI)(b:List TyI):putX l (x::b)=putI l x++putX l b:=List.flatMap_cons
theorem uw(l:List SubM):putX l []=[]:=rfl
def lk(l:List SubM)(v:Int):Option (List TyI):=(l.find? fun s=>s.v==v).map SubM.ty
theorem x7(l:List SubM)(x:TyI):putI l x=if varB x=true then (lk l x.v).getD [x] else [x]:=by
 unfold putI lk;split
 ·cases l.find? (fun s=>s.v==x.v)<;>rfl
 ·rfl
theorem ZV{l:List SubM}{v:Int}{t:List TyI}(h:lk l v=some t):∃ s∈l,s.v=v/\s.ty=t:=by
 unfold lk at h
 obtain ⟨s,h1,h2⟩:=Option.map_eq_some_iff.1 h;exact ⟨s,List.mem_of_find?_eq_some h1,by have:=List.find?_some h1;simpa using this,h2⟩
theorem uK{l:List SubM}{v:Int}:lk l v=none ↔ ∀ s∈l,s.v≠v:=by
 unfold lk;rw [Option.map_eq_none_iff,List.find?_eq_none]
 constructor
 ·intro h s hs;have:=h s hs;simpa using this
 ·intro h s hs;have:=h s hs;simpa using this
theorem lk_of{l:List SubM}(hd:l.Pairwise (fun a b=>a.v≠b.v)){s:SubM}(hs:s∈l):lk l s.v=some s.ty:=by
 induction l with
 | nil=>cases hs
 | cons a l ih=>
  unfold lk;rw [List.find?_cons];rcases List.mem_cons.1 hs with rfl|hs
  ·simp
  ·have:=(List.pairwise_cons.1 hd).1 s hs
   have e:(a.v==s.v)=false:=by simpa using this
   rw [e];exact ih (List.pairwise_cons.1 hd).2 hs
theorem V9{l:List SubM}(hw:∀ s∈l,rowT 1 s.ty):∀ (xs:List TyI) (m:Nat),(∀ x∈xs,varB x=true->x.ar=0)->rowT m xs->rowT m (putX l xs)
 | [],m,_,h=>h
 | x::xs,0,_,h=>by unfold rowT at h;rw [zh] at h;simp at h
 | x::xs,m+1,hv,h=>by
  have h':rowT (m+x.ar.toNat) xs:=by
   unfold rowT at h ⊢
   rw [show arsM (x::xs)=x.ar.toNat::arsM xs from rfl,scan] at h
   cases e:scan (arsM xs) (m+x.ar.toNat) with
   | none=>rw [e] at h;cases h
   | some j=>
     rw [e] at h;have:j=xs.length:=by simpa using h
     rw [this]
  have ih:=V9 hw xs _ (fun y hy=>hv y (List.mem_cons_of_mem _ hy)) h'
  rw [xG,x7];have one:rowT (m+1) ([x]++putX l xs):=by
   unfold rowT at ih ⊢
   rw [show arsM ([x]++putX l xs)=x.ar.toNat::arsM (putX l xs) from rfl,scan,ih];simp
  split
  ·rename_i hb
   cases hk:lk l x.v with
   | none=>exact one
   | some t=>
    obtain ⟨s,hs,-,rfl⟩:=ZV hk;have hz:=hv x (by simp) hb
    rw [hz] at ih
    have:=Zf (hw s hs) ih;rw [show 1+(m+Int.toNat 0)=m+1 by simp;omega] at this
    exact this
  ·exact one
theorem wR{l:List SubM}{xs:List TyI}{y:TyI}(h:y∈putX l xs):(y∈xs/\(varB y=true->lk l y.v=none))\/∃ s∈l,y∈s.ty/\∃ x∈xs,varB x=true/\x.v=s.v:=by
 obtain ⟨x,hx,hy⟩:=List.mem_flatMap.1 h;rw [x7] at hy
 split at hy
 ·rename_i hb
  cases hk:lk l x.v with
  | none=>
    rw [hk] at hy;have:y=x:=by simpa using hy
    subst this;exact .inl ⟨hx,fun _=>hk⟩
  | some t=>
   rw [hk] at hy
   obtain ⟨s,hs,h1,rfl⟩:=ZV hk;exact .inr ⟨s,hs,hy,x,hx,hb,h1.symm⟩
 ·rename_i hb
  have:y=x:=by simpa using hy
  subst this;exact .inl ⟨hx,fun q=>absurd q hb⟩
def clear(l:List SubM)(xs:List TyI):Prop:=∀ x∈xs,varB x=true->lk l x.v=none
theorem Xn{l:List SubM}{xs:List TyI}(h:clear l xs):putX l xs=xs:=by
 induction xs with
 | nil=>rfl
 | cons x xs ih=>
  rw [xG,ih fun y hy=>h y (List.mem_cons_of_mem _ hy),x7]
  split
  ·rename_i hb;rw [h x (by simp) hb];rfl
  ·rfl
structure GoodL(Q:TyI->Prop)(l:List SubM):Prop where
 rise:l.Pairwise (fun a b=>a.v<b.v)
 wf:∀ s∈l,wfV s.ty
 out:∀ s∈l,clear l s.ty
 len:∀ s∈l,s.ty.length<=200
 q:∀ s∈l,∀ x∈s.ty,Q x
 vq:∀ s∈l,∃ x,Q x/\varB x=true/\x.v=s.v
theorem GoodL.nil(Q:TyI->Prop):GoodL Q []:=⟨.nil,nofun,nofun,nofun,nofun,nofun⟩
section
variable {Q:TyI->Prop} {l:List SubM}
theorem GoodL.dif(h:GoodL Q l):l.Pairwise (fun a b=>a.v≠b.v):=h.rise.imp fun h=>by omega
theorem GoodL.clr(h:GoodL Q l)(xs:List TyI):clear l (putX l xs):=fun y hy hb=>by
 rcases wR hy with ⟨-,q⟩|⟨s,hs,hy,-⟩
 ·exact q hb
 ·exact h.out s hs y hy hb
theorem GoodL.idem(h:GoodL Q l)(xs:List TyI):putX l (putX l xs)=putX l xs:=Xn (h.clr xs)
theorem GoodL.put{xs:List TyI}(h:GoodL Q l)(hx:wfV xs):wfV (putX l xs):=⟨V9 (fun s hs=>(h.wf s hs).row) xs 1 hx.var hx.row,fun y hy=>by
 rcases wR hy with ⟨q,-⟩|⟨s,hs,hy,-⟩
 ·exact hx.ar y q
 ·exact (h.wf s hs).ar y hy,fun y hy=>by
 rcases wR hy with ⟨q,-⟩|⟨s,hs,hy,-⟩
 ·exact hx.var y q
 ·exact (h.wf s hs).var y hy⟩
theorem GoodL.putQ{xs:List TyI}(h:GoodL Q l)(hx:∀ x∈xs,Q x):∀ x∈putX l xs,Q x:=fun y hy=>by
 rcases wR hy with ⟨q,-⟩|⟨s,hs,hy,-⟩
 ·exact hx y q
 ·exact h.q s hs y hy
end
theorem z9{l:List SubM}{B:Nat}(hB:1<=B)(h:∀ s∈l,s.ty.length<=B):∀ xs:List TyI,(putX l xs).length<=xs.length*B
 | []=>Nat.zero_le _
 | x::xs=>by
  have:=z9 hB h xs;rw [xG,List.length_append,List.length_cons,Nat.add_mul,x7];have h1:(if varB x=true then (lk l x.v).getD [x] else [x]).length<=B:=by
   split
   ·cases hk:lk l x.v with
    | none=>simpa using hB
    | some t=>obtain ⟨s,hs,-,rfl⟩:=ZV hk;exact h s hs
   ·simpa using hB
  omega
theorem vN{l:List SubM}(h:∀ s∈l,0<s.ty.length):∀ xs:List TyI,xs.length<=(putX l xs).length
 | []=>Nat.zero_le _
 | x::xs=>by
  have:=vN h xs;rw [xG,List.length_append,List.length_cons,x7];have h1:1<=(if varB x=true then (lk l x.v).getD [x] else [x]).length:=by
   split
   ·cases hk:lk l x.v with
    | none=>simp
    | some t=>obtain ⟨s,hs,-,rfl⟩:=ZV hk;exact h s hs
   ·simp
  omega
theorem wJ{l:List SubM}{i:Nat}{x y:SubM}:y∈insL l i x ↔ y=x\/y∈l:=by
 unfold insL
 constructor
 ·intro h
  rcases List.mem_append.1 h with h|h
  ·exact .inr (List.mem_of_mem_take h)
  ·rcases List.mem_cons.1 h with h|h
   ·exact .inl h
   ·exact .inr (List.mem_of_mem_drop h)
 ·rintro (rfl|h)
  ·simp
  ·rw [<- List.take_append_drop i l] at h
   rcases List.mem_append.1 h with h|h
   ·exact List.mem_append_left _ h
   ·exact List.mem_append_right _ (List.mem_cons_of_mem _ h)
theorem uL{l:List SubM}{v:Int}{u:List TyI}{s:SubM}:s∈xE l v u ↔ ∃ s0∈l,s=⟨s0.v,putX [⟨v,u⟩] s0.ty⟩:=by
 unfold xE;rw [List.mem_map];exact ⟨fun ⟨a,h,e⟩=>⟨a,h,e.symm⟩,fun ⟨a,h,e⟩=>⟨a,h,e.symm⟩⟩
theorem ZW(v w:Int)(u:List TyI):lk [⟨v,u⟩] w=if v=w then some u else none:=by
 unfold lk;rw [List.find?_cons]
 by_cases h:v=w
 ·have e:(v==w)=true:=by simpa using h
  rw [if_pos h,e];rfl
 ·have e:(v==w)=false:=by simpa using h
  rw [if_neg h,e];rfl
theorem Qr{l:List SubM}{v:Int}{u:List TyI}(hr:l.Pairwise (fun a b=>a.v<b.v))(hv:∀ s∈l,s.v≠v):(xv l v u).Pairwise (fun a b=>a.v<b.v):=by
 have hn:(xE l v u).Pairwise (fun a b=>a.v<b.v):=by
  unfold xE;rw [List.pairwise_map];exact hr
 have hle:=Wi l v;have hlen:=yW l v u;have hlo:∀ s∈(xE l v u).take (cntU l v),s.v<v:=by
  intro s hs;obtain ⟨j,hj,rfl⟩:=List.getElem_of_mem hs;rw [List.length_take] at hj
  rw [List.getElem_take,V4];exact VS (by omega) (by omega)
 have hhi:∀ s∈(xE l v u).drop (cntU l v),v<s.v:=by
  intro s hs;obtain ⟨j,hj,rfl⟩:=List.getElem_of_mem hs;rw [List.length_drop] at hj
  rw [List.getElem_drop,V4];have h0:cntU l v<l.length:=by omega
  have h1:=VR h0;have h2:=hv _ (List.getElem_mem h0);rcases Nat.eq_zero_or_pos j with rfl|hj0
  ·simp only [Nat.add_zero];omega
  ·have:=List.pairwise_iff_getElem.1 hr (cntU l v) (cntU l v+j) h0 (by omega) (by omega)
   omega
 unfold xv insL;rw [List.pairwise_append];refine ⟨hn.sublist (List.take_sublist _ _),List.pairwise_cons.2 ⟨hhi,hn.sublist (List.drop_sublist _ _)⟩,fun a ha b hb=>?_⟩
 rcases List.mem_cons.1 hb with rfl|hb
 ·exact hlo a ha
 ·have:=hlo a ha;have:=hhi b hb;omega
section
variable {Q:TyI->Prop} {l:List SubM} {v:Int} {u:List TyI}
theorem Wv(hr:l.Pairwise (fun a b=>a.v<b.v))(hv:∀ s∈l,s.v≠v)(w:Int):lk (xv l v u) w=if w=v then some u else (lk l w).map (putX [⟨v,u⟩]):=by
 have hd:(xv l v u).Pairwise (fun a b=>a.v≠b.v):=(Qr (u:=u) hr hv).imp fun h=>by omega
 by_cases h:w=v
 ·subst h
  rw [if_pos rfl];exact lk_of hd (s:=⟨w,u⟩) (wJ.2 (.inl rfl))
 ·rw [if_neg h]
  cases hk:lk l w with
  | none=>
   rw [Option.map_none,uK];intro s hs;rcases wJ.1 hs with rfl|hs
   ·exact Ne.symm h
   ·obtain ⟨s0,h0,rfl⟩:=uL.1 hs
    exact uK.1 hk s0 h0
  | some t=>
   obtain ⟨s,hs,rfl,rfl⟩:=ZV hk;exact lk_of hd (s:=⟨s.v,putX [⟨v,u⟩] s.ty⟩) (wJ.2 (.inr (uL.2 ⟨s,hs,rfl⟩)))
theorem XJ(hr:l.Pairwise (fun a b=>a.v<b.v))(hv:∀ s∈l,s.v≠v):∀ xs:List TyI,putX (xv l v u) xs=putX [⟨v,u⟩] (putX l xs)
 | []=>rfl
 | x::xs=>by
  rw [xG,xG,wQ,XJ hr hv xs]
  congr 1
  rw [x7,x7];split
  ·rename_i hb
   rw [Wv hr hv]
   by_cases h:x.v=v
   ·subst h
    have:lk l x.v=none:=uK.2 hv;rw [if_pos rfl,this];show u=putX _ [x];rw [xG,uw,x7,if_pos hb,ZW,if_pos rfl];simp
   ·rw [if_neg h]
    cases hk:lk l x.v with
    | none=>
     show [x]=putX _ [x];rw [xG,uw,x7,if_pos hb,ZW,if_neg (Ne.symm h)];rfl
    | some t=>rfl
  ·rename_i hb
   show [x]=putX _ [x];rw [xG,uw,x7,if_neg hb];rfl
theorem QD(hv:v∉xp u):clear [⟨v,u⟩] u:=fun x hx hb=>by
 rw [ZW,if_neg]
 rintro rfl
 exact hv ((varsM_mem' _ _).2 ⟨x,hx,hb,rfl⟩)
theorem bind_good(h:GoodL Q l)(hv:∀ s∈l,s.v≠v)(hu:wfV u)(huq:∀ x∈u,Q x)(huc:clear l u)(hvq:∃ x,Q x/\varB x=true/\x.v=v)(hvu:v∉xp u)(hb:(decide (200<u.length)||bigU (xE l v u))=false):GoodL Q (xv l v u):=by
 have hr:=Qr (u:=u) h.rise hv;have hone:GoodL Q [⟨v,u⟩]:=⟨List.pairwise_singleton _ _,fun s hs=>by simp at hs;subst hs;exact hu,fun s hs=>by simp at hs;subst hs;exact QD hvu,fun s hs=>by
  simp at hs;subst hs
  simp only [Bool.or_eq_false_iff,decide_eq_false_iff_not] at hb
  show u.length<=200;omega,fun s hs=>by simp at hs;subst hs;exact huq,fun s hs=>by simp at hs;subst hs;exact hvq⟩
 refine ⟨hr,fun s hs=>?_,fun s hs x hx hbx=>?_,fun s hs=>?_,fun s hs=>?_,fun s hs=>?_⟩
 ·rcases wJ.1 hs with rfl|hs
  ·exact hu
  ·obtain ⟨s0,h0,rfl⟩:=uL.1 hs
   exact hone.put (h.wf s0 h0)
 ·rw [Wv h.rise hv]
  have key:x.v≠v/\lk l x.v=none:=by
   rcases wJ.1 hs with rfl|hs
   ·exact ⟨fun e=>hvu ((varsM_mem' _ _).2 ⟨x,hx,hbx,e⟩),huc x hx hbx⟩
   ·obtain ⟨s0,h0,rfl⟩:=uL.1 hs
    rcases wR hx with ⟨q1,q2⟩|⟨s1,hs1,q1,-⟩
    ·have:=q2 hbx
     rw [ZW] at this
     exact ⟨fun e=>(by rw [if_pos e.symm] at this;cases this),h.out s0 h0 x q1 hbx⟩
    ·simp at hs1;subst hs1
     exact ⟨fun e=>hvu ((varsM_mem' _ _).2 ⟨x,q1,hbx,e⟩),huc x q1 hbx⟩
  rw [if_neg key.1,key.2];rfl
 ·simp only [Bool.or_eq_false_iff,decide_eq_false_iff_not] at hb
  rcases wJ.1 hs with rfl|hs
  ·have:=hb.1;simp only;omega
  ·have:=List.any_eq_false.1 hb.2 s hs
   simpa using this
 ·rcases wJ.1 hs with rfl|hs
  ·exact huq
  ·obtain ⟨s0,h0,rfl⟩:=uL.1 hs
   exact hone.putQ (h.q s0 h0)
 ·rcases wJ.1 hs with rfl|hs
  ·exact hvq
  ·obtain ⟨s0,h0,rfl⟩:=uL.1 hs
   exact h.vq s0 h0
end
theorem seg_sub{xs:List TyI}{p e:Nat}:∃ A B,xs=A++(seg xs p e++B):=⟨xs.take p,(xs.drop p).drop (e - p),by unfold seg;rw [List.take_append_drop,List.take_append_drop]⟩
theorem Z7{xs:List TyI}{p e:Nat}{x:TyI}(h:x∈seg xs p e):x∈xs:=List.mem_of_mem_drop (List.mem_of_mem_take h)
theorem kid_wf{xs:List TyI}(h:wfV xs){n:Nat}(hn:n<(xs[0]'h.pos).ar.toNat):wfV (kid xs n):=by
 refine ⟨?_,fun x hx=>h.ar x (Z7 hx),fun x hx=>h.var x (Z7 hx)⟩
 have hs:=Xu h.wfT hn;have h1:=(ud h.wfT (n:=n+1) (by omega)).2
 have hbd:=Xr xs _ _ hs;unfold endM at hs
 cases e:scan ((arsM xs).drop (pN xs n)) 1 with
 | none=>rw [e] at hs;simp only at hs;omega
 | some j=>
  rw [e] at hs
  simp only at hs
  have hj:j=pN xs (n+1) - pN xs n:=by omega
  have:=xam _ _ _ e;unfold rowT kid;have el:(seg xs (pN xs n) (pN xs (n+1))).length=j:=by rw [Qf h1.2,hj]
  rw [el];rw [hj] at this ⊢
  have ea:arsM (seg xs (pN xs n) (pN xs (n+1)))=((arsM xs).drop (pN xs n)).take (pN xs (n+1) - pN xs n):=by unfold seg arsM;rw [List.map_take,List.map_drop]
  rw [ea];exact this
theorem kid_len{xs:List TyI}(h:wfV xs){n:Nat}(hn:n<(xs[0]'h.pos).ar.toNat):(kid xs n).length<xs.length:=by
 have h1:=(ud h.wfT (n:=n+1) (by omega)).2
 have h2:=(ud h.wfT (n:=n) (by omega)).2
 unfold kid;rw [Qf h1.2];have:=h.pos;omega
theorem xbG{xs ys:List TyI}(hx:wfV xs)(hy:wfV ys)(l:List SubM){m:Nat}(mx:(xs[0]'hx.pos).ar.toNat=m)(my:(ys[0]'hy.pos).ar.toNat=m):∀ n,n<=m->(∀ i,i<n->putX l (kid xs i)=putX l (kid ys i))->putX l (seg xs 1 (pN xs n))=putX l (seg ys 1 (pN ys n))
 | 0,_,_=>by rw [WB,WB,seg_nil,seg_nil]
 | n+1,hn,h=>by
  have a1:=ud hx.wfT (n:=n) (by omega)
  have a2:=ud hx.wfT (n:=n+1) (by omega)
  have b1:=ud hy.wfT (n:=n) (by omega)
  have b2:=ud hy.wfT (n:=n+1) (by omega)
  have c1:=(Xr xs _ _ (Xu hx.wfT (n:=n) (by omega))).1
  have c2:=(Xr ys _ _ (Xu hy.wfT (n:=n) (by omega))).1
  rw [seg_app a1.2.1 (Nat.le_of_lt c1) a2.2.2,seg_app b1.2.1 (Nat.le_of_lt c2) b2.2.2,wQ,wQ,xbG hx hy l mx my n (by omega) fun i hi=>h i (by omega)]
  congr 1
  exact h n (by omega)
theorem put_same{xs ys:List TyI}(hx:wfV xs)(hy:wfV ys)(l:List SubM)(h0:xs[0]'hx.pos=ys[0]'hy.pos)(h:∀ i,i<(xs[0]'hx.pos).ar.toNat->putX l (kid xs i)=putX l (kid ys i)):putX l xs=putX l ys:=by
 have hk:=xbG hx hy l rfl (by rw [<- h0]) _ (Nat.le_refl _) h
 have e1:pN xs (xs[0]'hx.pos).ar.toNat=xs.length:=by have:=Qk hx.wfT;unfold pN;rw [this];rfl
 have e2:pN ys (xs[0]'hx.pos).ar.toNat=ys.length:=by have:=Qk hy.wfT;unfold pN;rw [h0,this];rfl
 rw [e1,e2] at hk
 have s1:∀ zs:List TyI,(hz:0<zs.length)->zs=zs[0]::seg zs 1 zs.length:=fun zs hz=>by
  have:seg zs 0 zs.length=zs:=by unfold seg;simp
  rw [<- seg_cons hz hz,this]
 rw [s1 xs hx.pos,s1 ys hy.pos,xG,xG,h0]
 congr 1
theorem Qi{xs:List TyI}(h:wfV xs)(hv:varB (xs[0]'h.pos)=true):xs=[xs[0]'h.pos]:=by
 have hp:=h.pos;have ha:=h.var _ (List.getElem_mem hp) hv;have hr:=h.row
 match xs,hp with
 | x::r,hp=>
  simp only [List.getElem_cons_zero] at ha ⊢
  unfold rowT at hr
  rw [show arsM (x::r)=x.ar.toNat::arsM r from rfl,scan,ha] at hr
  simp only [Int.toNat_zero,Nat.zero_add,Nat.add_zero] at hr
  rw [zh] at hr
  have:r.length=0:=by simpa using hr.symm
  rw [List.length_eq_zero_iff.1 this]
theorem put_one{xs:List TyI}(h:wfV xs)(hv:varB (xs[0]'h.pos)=true)(u:List TyI):putX [⟨(xs[0]'h.pos).v,u⟩] xs=u:=by
 have h1:=Qi h hv;generalize (xs[0]'h.pos)=a at h1 hv ⊢
 subst h1;rw [xG,uw,x7,if_pos hv,ZW,if_pos rfl];simp
theorem one_eq{xs ys:List TyI}(h:wfV xs)(h':wfV ys)(hv:varB (xs[0]'h.pos)=true)(hv':varB (ys[0]'h'.pos)=true)(e:xs[0]'h.pos=ys[0]'h'.pos):xs=ys:=(Qi h hv).trans ((congrArg (fun z=>[z]) e).trans (Qi h' hv').symm)
def unb(V:List Int)(l:List SubM):Nat:=(V.filter fun v=>(lk l v).isNone).length
theorem QM{p q:Int->Bool}{v:Int}(hpq:∀ w,q w=true->p w=true)(hp:p v=true)(hq:q v=false):∀ V:List Int,(V.filter q).length<=(V.filter p).length/\(v∈V->(V.filter q).length<(V.filter p).length)
 | []=>⟨Nat.le_refl _,nofun⟩
 | w::V=>by
  obtain ⟨i1,i2⟩:=QM hpq hp hq V;rw [List.filter_cons,List.filter_cons];cases e1:q w with
  | true=>
   rw [if_pos rfl,if_pos (hpq w e1),List.length_cons,List.length_cons];refine ⟨by omega,fun h=>?_⟩
   rcases List.mem_cons.1 h with rfl|h
   ·rw [hq] at e1;cases e1
   ·have:=i2 h;omega
  | false=>
   rw [if_neg (by simp)]
   cases e2:p w with
   | true=>
    rw [if_pos rfl,List.length_cons];exact ⟨by omega,fun h=>by omega⟩
   | false=>
    rw [if_neg (by simp)]
    refine ⟨i1,fun h=>?_⟩
    rcases List.mem_cons.1 h with rfl|h
    ·rw [hp] at e2;cases e2
    ·exact i2 h
theorem unb_bind{V:List Int}{l:List SubM}{v:Int}{u:List TyI}(hr:l.Pairwise (fun a b=>a.v<b.v))(hv:∀ s∈l,s.v≠v)(hV:v∈V):unb V (xv l v u)<unb V l:=by
 refine (QM (v:=v) (fun w hw=>?_) ?_ ?_ V).2 hV
 ·rw [Wv hr hv] at hw
  split at hw
  ·cases hw
  ·simpa using hw
 ·rw [uK.2 hv];rfl
 ·rw [Wv hr hv,if_pos rfl];rfl
def Ext(l l':List SubM):Prop:=∀ t,putX l' (putX l t)=putX l' t
theorem Ext.trans{a b c:List SubM}(h:Ext a b)(h':Ext b c):Ext a c:=fun t=>by rw [<- h' (putX a t),h t,h' t]
def Bd(Q:TyI->Prop)(l:List SubM)(x:List TyI):Prop:=∀ l',Ext l l'->GoodL Q l'->(putX l' x).length<=40000
structure We(Q:TyI->Prop)(V:List Int)(l:List SubM)(x y:List TyI)(l':List SubM):Prop where
 good:GoodL Q l'
 ext:Ext l l'
 same:putX l' x=putX l' y
 less:l'=l\/unb V l'<unb V l
 room:l'.length+unb V l'<=l.length+unb V l
theorem Qq{Q:TyI->Prop}{V:List Int}{l:List SubM}{v:Int}{u x y:List TyI}(h:GoodL Q l)(hv:∀ s∈l,s.v≠v)(hV:v∈V)(hu:wfV u)(huq:∀ x∈u,Q x)(huc:clear l u)(hvq:∃ x,Q x/\varB x=true/\x.v=v)(hz:(xB l v u).2=0)(hx:putX [⟨v,u⟩] (putX l x)=u)(hy:putX [⟨v,u⟩] (putX l y)=u\/putX l y=u):We Q V l x y (xB l v u).1:=by
 unfold xB at hz ⊢
 split
 ·rename_i q;rw [if_pos q] at hz;cases hz
 ·rename_i q
  rw [if_neg q] at hz
  have hb:(decide (200<u.length)||bigU (xE l v u))=false:=by
   cases e:(decide (200<u.length)||bigU (xE l v u)) with
   | false=>rfl
   | true=>rw [e] at hz;simp at hz
  have hg:=bind_good h hv hu huq huc hvq q hb;have hun:=unb_bind (u:=u) h.rise hv hV;refine ⟨hg,fun t=>?_,?_,.inr hun,?_⟩
  ·rw [XJ h.rise hv,h.idem,XJ h.rise hv]
  ·rw [XJ h.rise hv,XJ h.rise hv,hx]
   rcases hy with hy|hy
   ·exact hy.symm
   ·rw [hy];exact (Xn (QD q)).symm
  ·show (xv l v u).length+unb V (xv l v u)<=_
   have hle:=Wi l v;have:(xv l v u).length=l.length+1:=by
    unfold xv insL;have:=yW l v u;simp only [List.length_append,List.length_cons,List.length_take,List.length_drop,Nat.min_def];split<;>omega
   omega
theorem head_eq{a b:TyI}(hn:a.name.toList=b.name.toList)(hv:a.v=b.v)(ha:a.ar=b.ar):a=b:=item_eq hv (by rw [ByteArray.toList_eq,ByteArray.toList_eq] at hn;exact congrArg Array.toList (by simpa using hn)) ha
theorem xbT{Q:TyI->Prop}{V:List Int}(hQ1:∀ x,Q x->varB x=true->x.v∈V)(hQ0:∀ x,Q x->varB x=false->x.v=0){B:Nat}(hB:B<=3000000) :
  ∀ (n:Nat) (l:List SubM) (x y:List TyI),GoodL Q l->wfV x->wfV y->(∀ i∈x,Q i)->(∀ i∈y,Q i)->Bd Q l x->Bd Q l y->l.length+unb V l<=B->unb V l*40001+(putX l x).length<n ->
   UOk n l x y/\∃ r,uniM n l x y=some r/\(r.2=0->We Q V l x y r.1)
 | 0,_,_,_,_,_,_,_,_,_,_,_,h=>absurd h (Nat.not_lt_zero _)
 | n+1,l,x,y,hg,wx,wy,qx,qy,bx,by_,hroom,hn=>by
  have hrefl:Ext l l:=fun t=>hg.idem t
  have lX:=bx l hrefl hg;have lY:=by_ l hrefl hg;have WX:=hg.put wx;have WY:=hg.put wy;have cX:=hg.clr x;have cY:=hg.clr y;have QX:=hg.putQ qx;have QY:=hg.putQ qy;have pos:∀ s∈l,0<s.ty.length:=fun s hs=>(hg.wf s hs).pos
  have hst:UStep l x y:=⟨by have:=vN pos x;omega,by have:=vN pos y;omega,by omega,by omega,by omega,WX.wfT,WY.wfT,hg.rise,fun v hv=>by
    rw [<- uK];rcases hv with hv|hv
    ·obtain ⟨i,hi,hb,rfl⟩:=(varsM_mem' _ _).1 hv;exact cX i hi hb
    ·obtain ⟨i,hi,hb,rfl⟩:=(varsM_mem' _ _).1 hv;exact cY i hi hb,fun s hs=>by have:=hg.len s hs;omega,fun v u hu s hs=>by
    have h1:=hg.len s hs;have h2:u.length<=40000:=by rcases hu with rfl|rfl<;>assumption
    have h3:=z9 (l:=[⟨v,u⟩]) (B:=40000) (by omega) (fun s hs=>by simp at hs;subst hs;exact h2) s.ty
    have:=Nat.mul_le_mul_right 40000 h1;omega⟩
  have pX:=WX.pos;have pY:=WY.pos;have eX:=List.getElem?_eq_getElem WX.pos;have eY:=List.getElem?_eq_getElem WY.pos;have IH:=xbT hQ1 hQ0 hB n;have fold:varB (putX l x)[0]=false->(putX l x)[0].ar=(putX l y)[0].ar->∀ (j i:Nat) (li:List SubM),i+j=(putX l x)[0].ar.toNat->GoodL Q li->Ext l li->(li=l\/unb V li<unb V l)->li.length+unb V li<=l.length+unb V l->(∀ k,k<i->putX li (kid (putX l x) k)=putX li (kid (putX l y) k)) ->
    Zt (UOk n) (uniM n) (putX l x) (putX l y) j i li/\∃ r,zO (uniM n) (putX l x) (putX l y) j i li=some r/\(r.2=0->GoodL Q r.1/\Ext l r.1/\(r.1=l\/unb V r.1<unb V l)/\r.1.length+unb V r.1<=l.length+unb V l/\∀ k,k<(putX l x)[0].ar.toNat->putX r.1 (kid (putX l x) k)=putX r.1 (kid (putX l y) k)):=by
   intro hva har j
   induction j with
   | zero=>
    intro i li hi hgi hei hli hro hk;exact ⟨trivial,(li,0),rfl,fun _=>⟨hgi,hei,hli,hro,fun k hk'=>hk k (by omega)⟩⟩
   | succ j ih=>
    intro i li hi hgi hei hli hro hk;have hi1:i<(putX l x)[0].ar.toNat:=by omega
    have hi2:i<(putX l y)[0].ar.toNat:=by omega
    have bd:∀ (z:List TyI),Bd Q l z->Bd Q li (kid (putX l z) i):=fun z hz l' he hg'=>by
     have h1:=hz l' (hei.trans he) hg';have h2:putX l' (putX l z)=putX l' z:=(hei.trans he) z;obtain ⟨A,C,e⟩:=seg_sub (xs:=putX l z) (p:=pN (putX l z) i) (e:=pN (putX l z) (i+1));have h3:=congrArg (fun w=>(putX l' w).length) e
     simp only [wQ,List.length_append] at h3
     show (putX l' (seg _ _ _)).length<=_;rw [h2] at h3;omega
    have hkl:=kid_len WX hi1;have hmes:unb V li*40001+(putX li (kid (putX l x) i)).length<n:=by
     rcases hli with rfl|hlt
     ·have e:putX li (kid (putX li x) i)=kid (putX li x) i:=Xn fun z hz hb=>cX z (Z7 hz) hb
      rw [e];omega
     ·have h1:=bd x bx li (fun t=>hgi.idem t) hgi
      have h2:(unb V li+1)*40001<=unb V l*40001:=Nat.mul_le_mul_right _ hlt;omega
    obtain ⟨u1,⟨l1,c1⟩,u2,u3⟩:=IH li (kid (putX l x) i) (kid (putX l y) i) hgi (kid_wf WX hi1) (kid_wf WY hi2) (fun z hz=>QX z (Z7 hz)) (fun z hz=>QY z (Z7 hz)) (bd x bx) (bd y by_) (by omega) hmes
    have step:c1=0->GoodL Q l1/\Ext l l1/\(l1=l\/unb V l1<unb V l)/\l1.length+unb V l1<=l.length+unb V l/\∀ k,k<i+1->putX l1 (kid (putX l x) k)=putX l1 (kid (putX l y) k):=fun hc=>by
     have q:=u3 hc;refine ⟨q.good,hei.trans q.ext,?_,by have:=q.room;simp only at this;omega,fun k hk'=>?_⟩
     ·rcases q.less with q1|q1
      ·simp only at q1;rw [q1];exact hli
      ·rcases hli with q2|q2
       ·rw [q2] at q1;exact .inr q1
       ·exact .inr (Nat.lt_trans q1 q2)
     ·rcases Nat.lt_succ_iff_lt_or_eq.1 hk' with h|rfl
      ·rw [<- q.ext (kid (putX l x) k),hk k h,q.ext]
      ·exact q.same
    refine ⟨⟨u1,fun l' hl'=>?_⟩,?_⟩
    ·rw [u2] at hl'
     injection hl' with hl';injection hl' with e1 e2;subst e1
     obtain ⟨s1,s2,s3,s4,s5⟩:=step e2;exact (ih (i+1) l1 (by omega) s1 s2 s3 s4 s5).1
    ·rw [zO,u2]
     simp only
     by_cases hc:c1=0
     ·rw [if_pos hc]
      obtain ⟨s1,s2,s3,s4,s5⟩:=step hc;exact (ih (i+1) l1 (by omega) s1 s2 s3 s4 s5).2
     ·rw [if_neg hc]
      exact ⟨_,rfl,fun h=>absurd h hc⟩
  have fold0:=fun h1 h2=>fold h1 h2 (putX l x)[0].ar.toNat 0 l (by omega) hg hrefl (.inl rfl) (Nat.le_refl _) (fun k hk=>absurd hk (Nat.not_lt_zero _))
  refine ⟨⟨hst,fun a b ha hb va vb hnm har=>?_⟩,?_⟩
  ·rw [eX] at ha;rw [eY] at hb
   injection ha with ha;injection hb with hb
   subst ha hb;exact (fold0 va har).1
  ·rw [uniM,eX,eY]
   simp only;have bY:varB (putX l x)[0]=true->(xB l (putX l x)[0].v (putX l y)).2=0->We Q V l x y (xB l (putX l x)[0].v (putX l y)).1:=fun hva hz=>by
    have hmem:=List.getElem_mem WX.pos;exact Qq hg (uK.1 (cX _ hmem hva)) (hQ1 _ (QX _ hmem) hva) WY QY cY ⟨_,QX _ hmem,hva,rfl⟩ hz (put_one WX hva _) (.inr rfl)
   have bX:varB (putX l y)[0]=true->(xB l (putX l y)[0].v (putX l x)).2=0->We Q V l x y (xB l (putX l y)[0].v (putX l x)).1:=fun hvb hz=>by
    have hmem:=List.getElem_mem WY.pos;have q:We Q V l y x (xB l (putX l y)[0].v (putX l x)).1:=Qq hg (uK.1 (cY _ hmem hvb)) (hQ1 _ (QY _ hmem) hvb) WX QX cX ⟨_,QY _ hmem,hvb,rfl⟩ hz (put_one WY hvb _) (.inr rfl);exact ⟨q.good,q.ext,q.same.symm,q.less,q.room⟩
   unfold Wp;cases hva:varB (putX l x)[0] with
   | true=>
    rw [if_pos rfl];cases hvb:varB (putX l y)[0] with
    | true=>
     rw [if_pos rfl]
     by_cases hvv:(putX l x)[0].v=(putX l y)[0].v
     ·rw [if_pos hvv]
      refine ⟨_,rfl,fun _=>⟨hg,hrefl,?_,.inl rfl,Nat.le_refl _⟩⟩
      show putX l x=putX l y;have e:(putX l x)[0]=(putX l y)[0]:=head_eq (by
       have h1:=hva;have h2:=hvb;unfold varB at h1 h2
       rw [List.isEmpty_iff] at h1 h2
       rw [h1,h2]) hvv (by rw [WX.var _ (List.getElem_mem WX.pos) hva,WY.var _ (List.getElem_mem WY.pos) hvb])
      exact one_eq WX WY hva hvb e
     ·rw [if_neg hvv]
      split
      ·exact ⟨_,rfl,bX hvb⟩
      ·exact ⟨_,rfl,bY hva⟩
    | false=>exact ⟨_,rfl,bY hva⟩
   | false=>
    rw [if_neg (by simp)]
    cases hvb:varB (putX l y)[0] with
    | true=>exact ⟨_,rfl,bX hvb⟩
    | false=>
     rw [if_neg (by simp)]
     by_cases hne:(putX l x)[0].name.toList≠(putX l y)[0].name.toList\/(putX l x)[0].ar≠(putX l y)[0].ar
     ·rw [if_pos hne]
      exact ⟨_,rfl,fun h=>by cases h⟩
     ·rw [if_neg hne]
      have hne':(putX l x)[0].name.toList=(putX l y)[0].name.toList/\(putX l x)[0].ar=(putX l y)[0].ar:=⟨Classical.byContradiction fun q=>hne (.inl q),Classical.byContradiction fun q=>hne (.inr q)⟩
      obtain ⟨r,hr,hp⟩:=(fold0 hva hne'.2).2;refine ⟨r,hr,fun hz=>?_⟩
      obtain ⟨s1,s2,s3,s4,s5⟩:=hp hz;refine ⟨s1,s2,?_,s3,s4⟩;have e0:(putX l x)[0]=(putX l y)[0]:=head_eq hne'.1 (by rw [hQ0 _ (QX _ (List.getElem_mem WX.pos)) hva,hQ0 _ (QY _ (List.getElem_mem WY.pos)) hvb]) hne'.2
      rw [<- s2 x,<- s2 y];exact put_same WX WY r.1 e0 s5
end
end Go.Proofs.YtmnokalddmlogaaGreat
