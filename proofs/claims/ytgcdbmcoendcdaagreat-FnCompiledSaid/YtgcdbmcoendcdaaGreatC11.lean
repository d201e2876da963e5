/- Parts of the proof. -/
import Derived.Test.YtgcdbmcoendcdaaGreatC10
set_option maxRecDepth 100000
set_option maxHeartbeats 8000000
set_option linter.unusedVariables false
set_option linter.unusedSimpArgs false
namespace Go.Proofs.YtgcdbmcoendcdaaGreat
section
attribute [local go_sem] List.getD_cons_succ
open Go.RowKit Arb
theorem ZD(env:List ByteArray)(q:MPat)(f:CF):∀ (l:List (MPat×CF)) (s:CS) (js:List Nat),xx env (l++[(q,f)]) s js=(armC q f env (xx env l s js).1,(xx env l s js).2++[(armC q f env (xx env l s js).1).ins.length - 1])
 | [],s,js=>rfl
 | (q',f')::l,s,js=>by rw [List.cons_append,xx,xx,ZD env q f l]
theorem ZX:∀ (l:List Nat) (s:CS) (j:Nat),xY s (l++[j])=(xY s l).here j
 | [],s,j=>rfl
 | i::l,s,j=>by rw [List.cons_append,xY,xY,ZX l]
theorem xaQ{chk:Bool}{qs:List MPat}{r:List ET}{k:Nat}(h:k<qs.length)(h2:k<r.length):(qs.zip (r.map (cmp chk))).take (k+1)=(qs.zip (r.map (cmp chk))).take k++[(qs[k],cmp chk r[k])]:=by
 rw [List.take_succ_eq_append_getElem (by simp;omega),List.getElem_zip,List.getElem_map]
theorem Wi{chk:Bool}{qs:List MPat}{r:List ET}(h:qs.length=r.length):(qs.zip (r.map (cmp chk))).take qs.length=qs.zip (r.map (cmp chk)):=List.take_of_length_le (by simp [h])
theorem Ve{chk:Bool}{qs:List MPat}{r:List ET}(k:Nat):(qs.zip (r.map (cmp chk))).take k=(qs.take k).zip ((r.take k).map (cmp chk)):=by
 simp only [List.zip,List.take_zipWith,List.map_take]
theorem Vi{chk:Bool}:∀ (qs:List MPat) (ts:List ET),(∀ t∈ts,okT t)->∀ (env:List ByteArray) (s:CS) (js:List Nat),(∀ j∈js,j<s.ins.length)->∀ j∈(xx env (qs.zip (ts.map (cmp chk))) s js).2,j<(xx env (qs.zip (ts.map (cmp chk))) s js).1.ins.length
 | [],ts,_,env,s,js,h=>by simpa [xx] using h
 | q::qs,[],_,env,s,js,h=>by simpa [xx] using h
 | q::qs,t::ts,ok,env,s,js,h=>by
  rw [List.map_cons,List.zip_cons_cons,xx];refine Vi qs ts (fun t ht=>ok t (by simp [ht])) env _ _ fun j hj=>?_
  have hg:=gr_arm (xm chk t (ok t (by simp))) q
  have h1:=hg.lo env s;have h2:0<(armC q (cmp chk t) env s).ins.length:=by
   have:=(xm chk t (ok t (by simp))).lo (env++pnames q.nodes) (arm0 q s)
   show 0<(setB _ _ _).length;rw [Xg,arm1,xk,xk];omega
  rcases List.mem_append.1 hj with hj|hj
  .have:=h j hj;omega
  .simp only [List.mem_singleton] at hj;omega
theorem ZC{chk:Bool}:∀ (qs:List MPat) (ts:List ET) (env:List ByteArray) (s:CS) (js:List Nat),qs.length=ts.length->(xx env (qs.zip (ts.map (cmp chk))) s js).2.length=js.length+qs.length
 | [],[],env,s,js,_=>by simp [xx]
 | q::qs,t::ts,env,s,js,h=>by
  rw [List.map_cons,List.zip_cons_cons,xx,ZC qs ts _ _ _ (by simpa using h)]
  simp;omega
def nE(j:Nat):List D:=[.s (.int .i64 j)]
theorem nE_eq(j:Nat):nE j=[.s (.int .i64 j)]:=rfl
theorem c_match(a:EI)(x:ET)(r:List ET)(ix:CE x)(ox:okT x)(ir:∀ t∈r,CE t)(or:∀ t∈r,okT t)(hpl:a.pats.length=r.length)(hpm:∀ q∈a.pats,patM q.nodes=true)(env:List ByteArray)(s0:CS)(hb:BdC (.mk a (x::r)) env s0) :
  FT 137 [.opt (cmpD s0 env),exE (.mk a (x::r))] (fun r' o=>r'=.tup []/\o=[.opt (cmpD (matC (cmp true x) (a.pats.zip (r.map (cmp true))) env s0) env),.un]):=by
 obtain ⟨b1,b2,b3⟩:=hb;simp only [size_mk,sizeL_cons] at b1 b2 b3
 have zx:=size_pos x;have hrl:=sizeL_len r;have c1:=ix env s0 ⟨by omega,by omega,by omega⟩
 have q1:=And.intro ((xm true x ox).lo env s0) (And.intro ((xm true x ox).hi env s0) ((xm true x ox).phi env s0));unfold matC;obtain ⟨s1,h1⟩:∃ q,q=cmp true x env s0:=⟨_,rfl⟩;rw [<- h1] at c1 q1 ⊢
 clear h1;obtain ⟨gx,rx⟩:=x;simp only [xW,List.map_cons,uM] at c1 ⊢
 refine FI PM Tryz.func137 Tryz.ntmps137 [(7,10,[7,8,9],[(7,0),(7,1),(7,2),(7,3),(7,4),(7,5),(8,0),(8,1),(8,2),(8,3),(8,4),(8,5),(9,0)],(lin [7,8,9] [0,1,2,3,4,5,6,7,8,9])),(11,12,[],[],(lin [] [0,1,2,3,4,5,6,7,8,9,10,11]))] rfl rfl ?_
 (have hWf:=w1 @xB;repeat' (first|refine zS ?_|refine zI ?_ ?_|refine zH c1 ?_|exact zF0|refine zD fun hb=>?_|exact zC|refine zT ?_|fail))
 have hga:=fun (k:Nat)=>XT true (a.pats.take k) (r.take k) (fun t ht=>xm true t (or t (List.mem_of_mem_take ht))) env s1 []
 have hjs:=Vi (chk:=true) a.pats r or env s1 [] (by simp)
 have hgA:=XT true a.pats r (fun t ht=>xm true t (or t ht)) env s1 []
 have hjl:=fun (k:Nat) (h:k<=r.length)=>ZC (chk:=true) (a.pats.take k) (r.take k) env s1 [] (by simp;omega)
 have hzt:=Ve (chk:=true) (qs:=a.pats) (r:=r);refine xn (fun n σ=>∃ k:Nat,k<=a.pats.length/\n=a.pats.length - k/\σ.t 0=.bx 900000 0/\σ.t 1=.pt [.s (.int .i64 a.kind),.s (.int .i64 a.at_),.s (.int .i64 a.n),.s (.string a.s),.sl 1 ([.pt [.s (.int .i64 gx.kind),.s (.int .i64 gx.at_),.s (.int .i64 gx.n),.s (.string gx.s),.sl 1 (rx.map exS),.sl 1 (gx.pats.map MPat.enc)]]::r.map exS),.sl 1 (a.pats.map MPat.enc)] /\
  σ.t 4=.bs 19 1 k/\σ.b 19=some (.arr 3 1 ((xx env ((a.pats.zip (r.map (cmp true))).take k) s1 []).2.map nE))/\σ.t 23=.sl 1 (a.pats.map MPat.enc)/\σ.t 24=.s (.int .i64 a.pats.length)/\σ.t 25=.s (.int .i64 k) /\
  σ.b 900000=some (.box [.bs 1900000 4 (xx env ((a.pats.zip (r.map (cmp true))).take k) s1 []).1.ins.length,.bs 2900000 1 (xx env ((a.pats.zip (r.map (cmp true))).take k) s1 []).1.pats.length,.bs 3900000 1 env.length,.s (.bool (xx env ((a.pats.zip (r.map (cmp true))).take k) s1 []).1.lost)]) /\
  σ.b 1900000=some (.arr 49 4 ((xx env ((a.pats.zip (r.map (cmp true))).take k) s1 []).1.ins.map MIns.enc))/\σ.b 2900000=some (.arr 89 1 ((xx env ((a.pats.zip (r.map (cmp true))).take k) s1 []).1.pats.map MPat.own))/\σ.b 3900000=some (.arr 9 1 (env.map stE))) a.pats.length ⟨0,by omega,by omega,?_⟩ ?_
 .simp only [go_sem,simprocAttr,Int.natCast_zero,List.take_zero,xx]
 .rintro n σ ⟨k,hk,rfl,h0,h1,h4,c9,h23,h24,h25,c0,d1,d2,d3⟩ K' hK
  by_cases hlt:k<a.pats.length
  .have hlr:k<r.length:=by omega
   have hst:=xaQ (chk:=true) hlt hlr;have hsu:=ZD env a.pats[k] (cmp true r[k]) ((a.pats.zip (r.map (cmp true))).take k) s1 [];rw [<- hst] at hsu
   have g:=hga k;have jl:=hjl k (by omega)
   rw [<- hzt k] at g jl
   obtain ⟨S,hS⟩:∃ S,S=(xx env ((a.pats.zip (r.map (cmp true))).take k) s1 []).1:=⟨_,rfl⟩;obtain ⟨J,hJ⟩:∃ J,J=(xx env ((a.pats.zip (r.map (cmp true))).take k) s1 []).2:=⟨_,rfl⟩;rw [<- hS] at c0 d1 d2 g hsu
   rw [<- hJ] at c9 jl hsu
   have jl:J.length=k:=by rw [jl,List.length_take];simp;omega
   have hsp:=WV hlr;have zr:=size_pos r[k];have hpo:=hpm a.pats[k] (List.getElem_mem hlt);have hpn:=XO a.pats[k].nodes;have hp6:=Zi hpo;have hpk:=Yw hpo;have e1:=yJ S env ⟨20,S.pats.length,0,eS⟩ (by omega)
   obtain ⟨S1,hS1⟩:∃ q,q=S.emit ⟨20,S.pats.length,0,eS⟩:=⟨_,rfl⟩;have p1:S1.ins.length=S.ins.length+1:=by rw [hS1,xk]
   have p1p:S1.pats=S.pats:=by rw [hS1];rfl
   have p1l:S1.lost=S.lost:=by rw [hS1];rfl
   have ha0:arm0 a.pats[k] S=⟨S1.ins,S1.pats++[a.pats[k]],S1.lost⟩:=by rw [hS1];rfl
   rw [<- hS1] at e1
   have hcp:=VS a.pats[k].nodes (by omega) (fun y hy=>by have:=hpk y hy;omega)
   have e2:=Xs (ir r[k] (List.getElem_mem hlr)) env (pnames a.pats[k].nodes) (arm0 a.pats[k] S) ⟨by rw [ha0];show S1.ins.length+_<=_;omega,by rw [ha0];show (S1.pats++[a.pats[k]]).length+_<=_;rw [p1p];simp;omega,by rw [List.length_append];omega⟩
   have q2:=And.intro ((xm true r[k] (or r[k] (List.getElem_mem hlr))).lo (env++pnames a.pats[k].nodes) (arm0 a.pats[k] S)) ((xm true r[k] (or r[k] (List.getElem_mem hlr))).hi (env++pnames a.pats[k].nodes) (arm0 a.pats[k] S));obtain ⟨S2,hS2⟩:∃ q,q=cmp true r[k] (env++pnames a.pats[k].nodes) (arm0 a.pats[k] S):=⟨_,rfl⟩;have hA1:arm1 a.pats[k] (cmp true r[k]) env S=(S2.emit ⟨15,(pnames a.pats[k].nodes).length,0,eS⟩).emit ⟨12,0,0,eS⟩:=by rw [hS2];rfl
   rw [<- hS2] at e2 q2
   rw [ha0] at e2 q2
   have q2':S1.ins.length<=S2.ins.length/\S2.ins.length<=S1.ins.length+(4*r[k].size - 3):=q2;have e3:=yJ S2 env ⟨15,(pnames a.pats[k].nodes).length,0,eS⟩ (by omega)
   obtain ⟨S3,hS3⟩:∃ q,q=S2.emit ⟨15,(pnames a.pats[k].nodes).length,0,eS⟩:=⟨_,rfl⟩;have p3:S3.ins.length=S2.ins.length+1:=by rw [hS3,xk]
   rw [<- hS3] at e3 hA1
   have e4:=yJ S3 env ⟨12,0,0,eS⟩ (by omega)
   obtain ⟨S4,hS4⟩:∃ q,q=S3.emit ⟨12,0,0,eS⟩:=⟨_,rfl⟩;have p4:S4.ins.length=S3.ins.length+1:=by rw [hS4,xk]
   rw [<- hS4] at e4 hA1
   have hAC:armC a.pats[k] (cmp true r[k]) env S=⟨setB S4.ins S.ins.length S4.ins.length,S4.pats,S4.lost⟩:=by unfold armC;rw [hA1]
   rw [hAC] at hsu
   have hil:S.ins.length<S4.ins.length:=by omega
   have hx3:=xi MIns.enc S4.ins S.ins.length hil;have he3:=MIns.enc_eq S4.ins[S.ins.length];have hst3:(S4.ins.map MIns.enc).set S.ins.length [.s (.int .i64 S4.ins[S.ins.length].op),.s (.int .i64 S4.ins[S.ins.length].a),.s (.int .i64 S4.ins.length),.s (.string S4.ins[S.ins.length].s)]=(setB S4.ins S.ins.length S4.ins.length).map MIns.enc:=by
    rw [setB_at hil,List.map_set];rfl
   have hx:=xi exS r k hlr;have hx2:=xi MPat.enc a.pats k hlt;have hq:=MPat.enc_eq a.pats[k];have hqo:=MPat.own_eq a.pats[k];obtain ⟨b,br,hbr⟩:∃ b br,r[k]=.mk b br:=⟨_,_,Arb.eta _⟩;have hex:exS r[k]=[.pt [.s (.int .i64 b.kind),.s (.int .i64 b.at_),.s (.int .i64 b.n),.s (.string b.s),.sl 1 (br.map exS),.sl 1 (b.pats.map MPat.enc)]]:=by rw [hbr,uM]
   have hexE:exE r[k]=.pt [.s (.int .i64 b.kind),.s (.int .i64 b.at_),.s (.int .i64 b.n),.s (.string b.s),.sl 1 (br.map exS),.sl 1 (b.pats.map MPat.enc)]:=by rw [hbr,xW]
   rw [hexE,xB] at e2
   simp only [List.map_append,List.map_cons,List.map_nil,hqo,p1p,p1l] at e2
   have htn:((k:Int)+1).toNat=k+1:=by omega
   have hlb:Xg S4.ins S.ins.length S4.ins.length=Xg S4.ins S.ins.length S4.ins.length:=rfl;have hsl:=Xg S4.ins S.ins.length S4.ins.length;have hS4l:(S4.ins.length:Int) - 1=S3.ins.length:=by omega
   have hjn:S4.ins.length - 1=S3.ins.length:=by omega
   have htj:(J.map nE).take k=J.map nE:=List.take_of_length_le (by rw [List.length_map];omega)
   clear hS1 hS2 hS3 hS4 hA1 hAC ha0 q2 hS hJ hjs hgA hga hjl
   (have hWf:=w10 @xB @h0 @h1 @h4 @c9 @h23 @h24 @h25 @c0 (ai @d1<|ai @d2<|ai @d3<|ai @hx<|ai @hx2<|ai @hq<|ai @hex<|ai @htn<|ai @hx3<|ai @he3<|ai @hst3<|ai @p1p<|ai @p1l<|ai @xd<|@hsl);repeat' (first|refine zS ?_|refine zI ?_ ?_|refine zH e1 ?_|refine zX (FCon.noout hcp) ?_|((with_reducible apply xc);refine zG (hcp) ?_)|((with_reducible apply xc);refine zG (UT a.pats[k].nodes (by omega)) ?_)|refine zU (UT a.pats[k].nodes (by omega)) ?_|refine zH e2 ?_|refine zH e3 ?_|refine zH e4 ?_|exact zF0|refine zD fun hb=>?_|exact zC|refine zT ?_|fail))
   refine hK (a.pats.length - (k+1)) _ (by omega) ⟨k+1,by omega,rfl,?_⟩
   simp only [go_sem,simprocAttr,h0,h1,h4,c9,h23,h24,h25,c0,d1,d2,d3,Int.natCast_succ,hsu,List.map_append,hjn,nE_eq,hsl,htj]
  .obtain rfl:k=a.pats.length:=by omega
   rw [Wi (by omega)] at c0 c9 d1 d2
   have jl:=hjl r.length (by omega)
   rw [List.take_length,hpl.symm,List.take_length] at jl
   obtain ⟨S,hS⟩:∃ S,S=(xx env (a.pats.zip (r.map (cmp true))) s1 []).1:=⟨_,rfl⟩;obtain ⟨J,hJ⟩:∃ J,J=(xx env (a.pats.zip (r.map (cmp true))) s1 []).2:=⟨_,rfl⟩;rw [<- hS] at c0 d1 d2 hjs hgA ⊢
   rw [<- hJ] at c9 hjs jl ⊢
   have e1:=yJ S env ⟨21,0,0,eS⟩ (by omega)
   obtain ⟨S1,hS1⟩:∃ q,q=S.emit ⟨21,0,0,eS⟩:=⟨_,rfl⟩;have p1:S1.ins.length=S.ins.length+1:=by rw [hS1,xk]
   rw [<- hS1] at e1 ⊢
   have jl:J.length=a.pats.length:=by simpa using jl
   have hSb:S.ins.length<=100000:=by omega
   clear hS hJ hga hgA hjl hzt hS1
   (have hWf:=w10 @xB @h0 @h1 @h4 @c9 @h23 @h24 @h25 @c0 (ai @d1<|ai @d2<|ai @d3<|@jl);repeat' (first|refine zS ?_|refine zI ?_ ?_|refine zH e1 ?_|exact zF0|refine zD fun hb=>?_|exact zC|refine zT ?_|fail))
   refine xn (fun n σ=>∃ k:Nat,k<=J.length/\n=J.length - k/\σ.t 0=.bx 900000 0/\σ.b 19=some (.arr 3 1 (J.map nE))/\σ.t 94=.bs 19 1 J.length/\σ.t 95=.s (.int .i64 J.length)/\σ.t 96=.s (.int .i64 k) /\
    σ.b 900000=some (.box [.bs 1900000 4 (xY S1 (J.take k)).ins.length,.bs 2900000 1 (xY S1 (J.take k)).pats.length,.bs 3900000 1 env.length,.s (.bool (xY S1 (J.take k)).lost)]) /\
    σ.b 1900000=some (.arr 49 4 ((xY S1 (J.take k)).ins.map MIns.enc))/\σ.b 2900000=some (.arr 89 1 ((xY S1 (J.take k)).pats.map MPat.own))/\σ.b 3900000=some (.arr 9 1 (env.map stE))) J.length ⟨0,by omega,by omega,?_⟩ ?_
   .simp only [go_sem,simprocAttr,h0,h1,h4,c9,h23,h24,h25,c0,d1,d2,d3,jl,Int.natCast_zero,List.take_zero,xY]
   .rintro n σ ⟨k,hk,rfl,g0,g19,g94,g95,g96,f0,f1,f2,f3⟩ K'' hK''
    by_cases hlt:k<J.length
    .have hx:=xi nE J k hlt
     have he:=nE_eq J[k];have hj:=hjs J[k] (List.getElem_mem hlt);have hh:=ZX (J.take k) S1 J[k];rw [<- List.take_succ_eq_append_getElem hlt] at hh
     have hlen:=(wv S1 (J.take k)).1;have e2:=X0 (xY S1 (J.take k)) env J[k] (by omega) (by omega)
     rw [<- hh] at e2
     (have hWf:=w10 @xB @g0 @g19 @g94 @g95 @g96 @f0 @f1 @f2 (ai @f3<|ai @hx<|@he);repeat' (first|refine zS ?_|refine zI ?_ ?_|refine zH e2 ?_|exact zF0|refine zD fun hb=>?_|exact zC|refine zT ?_|fail))
     refine hK'' (J.length - (k+1)) _ (by omega) ⟨k+1,by omega,rfl,?_⟩
     simp only [go_sem,simprocAttr,g0,g19,g94,g95,g96,f0,f1,f2,f3,Int.natCast_succ,xB]
    .obtain rfl:k=J.length:=by omega
     rw [List.take_length] at f0 f1 f2
     (have hWf:=w10 @xB @g0 @g19 @g94 @g95 @g96 @f0 @f1 @f2 @f3;repeat' (first|refine zS ?_|refine zI ?_ ?_|exact zF0|refine zD fun hb=>?_|exact zC|refine zT ?_|fail))
     all_goals rfl
theorem expr_var(a:EI)(env:List ByteArray)(s0:CS)(hb:BdC (.mk a []) env s0)(hs:ya true s0=false)(k:a.kind=3):FT 55 [.opt (cmpD s0 env),exE (.mk a [])] (fun r o=>r=.tup []/\o=[.opt (cmpD (cmp true (.mk a []) env s0) env),.un]):=by
 obtain ⟨hl,h3⟩:=vP hs;have hce:=wU a [] (by omega) (by simp)
 have hee:∀ n,(endI a n).enc=[.s (.int .i64 0),.s (.int .i64 0),.s (.int .i64 0),.s (.string eS)]:=fun n=>by unfold endI;simp [k,MIns.enc]
 obtain ⟨b1,b2,b3⟩:=hb;simp only [size_mk,sizeL_cons,sizeL_nil] at b1 b2 b3
 rw [vr hs k];have c1:=c_name s0 env a.s (by omega) (by omega)
 simp only [xW,List.map_cons,List.map_nil] at hce ⊢
 rw [k] at hce
 simp only [xB s0 env,hl] at c1
 refine FI PM Tryz.func55 Tryz.ntmps55 [(14,12,[],[],(lin [] [0,1,2,3,4,5,6,7,8,9,10,11])),(16,26,[],[],(lin [] [0,1,2,3,4,5,6,7,8,9,10,11,12,13,14,15,16,17,18,19,20,21,22,23,24,25])),(17,12,[],[],(lin [] [0,1,2,3,4,5,6,7,8,9,10,11])),(26,12,[],[],(lin [] [0,1,2,3,4,5,6,7,8,9,10,11])),(42,12,[],[],(lin [] [0,1,2,3,4,5,6,7,8,9,10,11]))] rfl rfl ?_
 (have hWf:=w4 @xB @hl @hee @k;repeat' (first|refine zS ?_|refine zI ?_ ?_|refine zK hce ?_|refine zH c1 ?_|exact zF0|refine zD fun hb=>?_|exact zC|refine zT ?_|fail))
 all_goals first|rfl|skip
theorem expr_mat(a:EI)(x:ET)(r:List ET)(ix:CE x)(ox:okT x)(ir:∀ t∈r,CE t)(or:∀ t∈r,okT t)(hpl:a.pats.length=r.length)(hpm:∀ q∈a.pats,patM q.nodes=true)(env:List ByteArray)(s0:CS)(hb:BdC (.mk a (x::r)) env s0)(hs:ya true s0=false)(k:a.kind=13) :
  FT 55 [.opt (cmpD s0 env),exE (.mk a (x::r))] (fun r' o=>r'=.tup []/\o=[.opt (cmpD (cmp true (.mk a (x::r)) env s0) env),.un]):=by
 obtain ⟨hl,h3⟩:=vP hs;have hrl:=sizeL_len r;have hb1:=hb.1;rw [size_mk,sizeL_cons] at hb1
 have hce:=wU a (x::r) (by omega) (by rw [List.length_cons];omega)
 have hee:∀ n,(endI a n).enc=[.s (.int .i64 0),.s (.int .i64 0),.s (.int .i64 0),.s (.string eS)]:=fun n=>by unfold endI;simp [k,MIns.enc]
 rw [vm hs k];have c1:=c_match a x r ix ox ir or hpl hpm env s0 hb;obtain ⟨s1,h1⟩:∃ q,q=matC (cmp true x) (a.pats.zip (r.map (cmp true))) env s0:=⟨_,rfl⟩;rw [<- h1] at c1 ⊢
 clear h1;obtain ⟨gx,rx⟩:=x;simp only [xW,List.map_cons,uM] at hce c1 ⊢
 rw [k] at hce c1
 simp only [xB s0 env,hl] at c1
 refine FI PM Tryz.func55 Tryz.ntmps55 [(14,12,[],[],(lin [] [0,1,2,3,4,5,6,7,8,9,10,11])),(16,26,[],[],(lin [] [0,1,2,3,4,5,6,7,8,9,10,11,12,13,14,15,16,17,18,19,20,21,22,23,24,25])),(17,12,[],[],(lin [] [0,1,2,3,4,5,6,7,8,9,10,11])),(26,12,[],[],(lin [] [0,1,2,3,4,5,6,7,8,9,10,11])),(42,12,[],[],(lin [] [0,1,2,3,4,5,6,7,8,9,10,11]))] rfl rfl ?_
 (have hWf:=w4 @xB @hl @hee @k;repeat' (first|refine zS ?_|refine zI ?_ ?_|refine zK hce ?_|refine zH c1 ?_|exact zF0|refine zD fun hb=>?_|exact zC|refine zT ?_|fail))
 all_goals first|rfl|skip
theorem c_expr:∀ t:ET,okT t->CE t:=fun t=>by
 induction t using Arb.indS with
 | h t ih=>
  intro ok env s hb;obtain ⟨a,l⟩:=t;cases hs:ya true s with
  | true=>exact expr_stop a l env s hs
  | false=>
   have ok1:=ok.kid;have ihk:∀ t∈l,CE t:=fun t ht=>ih t (size_lt ht) (ok1 t ht)
   obtain ⟨v,at0,n0,p0,pm⟩:=ok.root;cases v with
   | int k e=>exact zg a l ok ihk env s hb hs (by rw [k];rfl)
   | str k e=>exact zg a l ok ihk env s hb hs (by rw [k];rfl)
   | con0 k e=>exact zg a l ok ihk env s hb hs (by rw [k];rfl)
   | cons b x y k e=>exact zg a l ok ihk env s hb hs (by rw [k];rfl)
   | con1 x k e=>exact zg a l ok ihk env s hb hs (by rw [k];rfl)
   | app x y k e=>exact zg a l ok ihk env s hb hs (by rw [k];rfl)
   | prim x y k e=>exact zg a l ok ihk env s hb hs (by rw [k];rfl)
   | pair x y k e=>exact zg a l ok ihk env s hb hs (by rw [k];rfl)
   | unit k e=>exact zg a l ok ihk env s hb hs (by rw [k];rfl)
   | raise x k e=>exact zg a l ok ihk env s hb hs (by rw [k];rfl)
   | ref x k e=>exact zg a l ok ihk env s hb hs (by rw [k];rfl)
   | get x k e=>exact zg a l ok ihk env s hb hs (by rw [k];rfl)
   | set x y k e=>exact zg a l ok ihk env s hb hs (by rw [k];rfl)
   | var k e=>subst e;exact expr_var a env s hb hs k
   | func x k e=>subst e;exact expr_func a x (ihk x (by simp)) (ok1 x (by simp)) env s hb hs k
   | rec_ b x y k e=>
    subst e;have okx:=(ok1 (.mk b [x]) (by simp)).kid x (by simp)
    exact expr_rec_ a b x y (ih x (size_lt2 (r:=[x]) (by simp) (List.mem_cons_self ..)) okx) okx (ihk y (by simp)) (ok1 y (by simp)) env s hb hs k
   | seq x y k e=>subst e;exact expr_seq a x y (ihk x (by simp)) (ok1 x (by simp)) (ihk y (by simp)) (ok1 y (by simp)) env s hb hs k
   | let_ x y k e=>subst e;exact expr_let_ a x y (ihk x (by simp)) (ok1 x (by simp)) (ihk y (by simp)) (ok1 y (by simp)) env s hb hs k
   | if_ x y z k e=>subst e;exact expr_if_ a x y z (ihk x (by simp)) (ok1 x (by simp)) (ihk y (by simp)) (ok1 y (by simp)) (ihk z (by simp)) (ok1 z (by simp)) env s hb hs k
   | try_ x y k e=>subst e;exact expr_try_ a x y (ihk x (by simp)) (ok1 x (by simp)) (ihk y (by simp)) (ok1 y (by simp)) env s hb hs k
   | mat x r k e hpl=>subst e;exact expr_mat a x r (ihk x (by simp)) (ok1 x (by simp)) (fun t ht=>ihk t (by simp [ht])) (fun t ht=>ok1 t (by simp [ht])) hpl pm env s hb hs k
end
section
open Go.RowKit Arb
def yC(chk:Bool)(t:ET):CS:=(cmp chk t [] ⟨[],[],false⟩).emit ⟨11,0,0,eS⟩
def ansC(s:CS):D:=if s.lost=true then .tup [.ag [.osl 49 4 [],.osl 89 1 []],.s (.bool false)] else .tup [.ag [.osl 49 4 (s.ins.map MIns.enc),.osl 89 1 (s.pats.map MPat.own)],.s (.bool true)]
theorem frA_ex(t:ET):frA (exO t)=exE t:=by
 obtain ⟨a,l⟩:=t;rw [<- ex_frz,UZ];rfl
theorem FCon.tagN{P:Program}{f:FuncId}{args:List D}{e k e' k':Nat}{c:D}(h:FCon P f args (fun r _=>r=.tup [.ag [.nil,.nil],c])):FCon P f args (fun r _=>r=.tup [.ag [.osl e k [],.osl e' k' []],c]):=h.wk fun r o q=>by
 subst q;refine ⟨_,rfl,fun g w v hv=>QH (xs:=[.ag [.nil,.nil],c]) (xs':=[.ag [.osl e k [],.osl e' k' []],c]) rfl (fun m x x' hx hx' u hu=>?_) hv⟩
 match m,hx,hx' with
 | 0,hx,hx'=>
  have hx:D.ag [.nil,.nil]=x:=Option.some.inj hx;have hx':D.ag [.osl e k [],.osl e' k' []]=x':=Option.some.inj hx';subst hx hx';refine RN_agN (ys:=[.nil,.nil]) (ys':=[.osl e k [],.osl e' k' []]) rfl (fun i d d' hd hd'=>?_) hu
  match i,hd,hd' with
  | 0,hd,hd'=>exact .inr ⟨by simpa using hd.symm,.inl ⟨_,_,by simpa using hd'.symm⟩⟩
  | 1,hd,hd'=>exact .inr ⟨by simpa using hd.symm,.inl ⟨_,_,by simpa using hd'.symm⟩⟩
  | i+2,hd,hd'=>simp at hd
 | 1,hx,hx'=>
  have hx:c=x:=Option.some.inj hx;have hx':c=x':=Option.some.inj hx';subst hx hx';exact hu
 | m+2,hx,hx'=>simp at hx
theorem WI(p:MProgram)(ho:p.ok)(hs:p.sm)(hp:wI p=false):FT 18 [.ag p.enc] (fun r _=>r=.tup [.ag [.osl 49 4 [],.osl 89 1 []],.s (.bool false)]):=by
 refine FCon.tagN ?_;have hc:=Yn p ho hs;rw [hp,MProgram.enc_eq] at hc
 rw [MProgram.enc_eq];refine FI PM Tryz.func18 Tryz.ntmps18 [] rfl rfl ?_
 (have hWf:=f0;repeat' (first|refine zS ?_|refine zI ?_ ?_|refine zK hc ?_|exact zF0|refine zD fun hb=>?_|exact zC|refine zT ?_|fail))
theorem pats_okB:∀ t:ET,okT t->t.size<=1000000->All (fun a _=>patsB a.pats) t:=fun t=>by
 induction t using Arb.ind with
 | h a l ih=>
  intro ok hz;refine .mk ⟨?_,fun q hq=>?_⟩ fun t ht=>ih t ht (ok.kid t ht) (by have:=size_lt (a:=a) ht;omega)
  .have hsl:=sizeL_len l
   rw [size_mk] at hz
   rcases ok.root.p0 with k|k
   .cases ok.root.v with
    | mat x r _ e hpl=>subst e;rw [hpl];rw [List.length_cons] at hsl;omega
    | _=>omega
   .rw [k];exact Nat.zero_le _
  .have:=Zi (ok.root.pm q hq)
   exact ⟨by omega,fun x hx=>by have:=Yw (ok.root.pm q hq) x hx;omega⟩
theorem W2(p:MProgram)(ho:p.ok)(hs:p.sm)(hp:wI p=true)(t:ET)(ht:p.nodes=Arb.lay EI.node 0 t)(ok:okT t)(hz:t.size<=600):FT 18 [.ag p.enc] (fun r _=>r=ansC (yC true t)):=by
 have hc:=Yn p ho hs;rw [hp,MProgram.enc_eq] at hc
 have hA:=At.zero (f:=EI.node) t;rw [<- ht] at hA
 have hg:=c_grow p.nodes (by have:=congrArg List.length ht;rw [Arb.lay_len] at this;omega) t 0 hA (pats_okB t ok (by omega))
 have hg:FT 31 [.sl 6 (p.nodes.map MNode.enc),.s (.int .i64 (0:Nat))] (fun r _=>r=exE t):=FCon.ice (hg.mono fun r _ e=>by subst e;exact frA_ex t)
 have gr:=xm true t ok;have g1:=gr.hi [] ⟨[],[],false⟩;have he:=c_expr t ok [] ⟨[],[],false⟩ ⟨by show 0+_<=_;omega,by show 0+_<=_;omega,by show 0+_<=_;omega⟩
 have he:=he.arg [.opt [.nil,.nil,.nil,.s (.bool false)],exE t] rfl fun j d' d h1 h2 g w u hu=>by
  match j,h1,h2 with
  | 0,h1,h2=>
   rw [<- Option.some.inj h2];rw [<- Option.some.inj h1] at hu
   refine RA_optN (row:=[.nil,.nil,.nil,.s (.bool false)]) (row':=[.osl 49 4 [],.osl 89 1 [],.osl 9 1 [],.s (.bool false)]) rfl (fun i d d' hd hd'=>?_) hu
   match i,hd,hd' with
   | 0,hd,hd'=>exact .inr ⟨by simpa using hd.symm,.inl ⟨_,_,by simpa using hd'.symm⟩⟩
   | 1,hd,hd'=>exact .inr ⟨by simpa using hd.symm,.inl ⟨_,_,by simpa using hd'.symm⟩⟩
   | 2,hd,hd'=>exact .inr ⟨by simpa using hd.symm,.inl ⟨_,_,by simpa using hd'.symm⟩⟩
   | 3,hd,hd'=>exact .inl (by rw [<- Option.some.inj hd,<- Option.some.inj hd'])
   | i+4,hd,hd'=>simp at hd
  | 1,h1,h2=>rw [<- Option.some.inj h2,Option.some.inj h1];exact hu
  | j+2,h1,h2=>simp at h1
 obtain ⟨S,hS⟩:∃ S,S=cmp true t [] ⟨[],[],false⟩:=⟨_,rfl⟩;rw [<- hS] at he g1
 have g1:S.ins.length<=0+(4*t.size - 3):=g1;have e2:=yJ S [] ⟨11,0,0,eS⟩ (by omega)
 unfold yC;rw [<- hS];obtain ⟨S2,hS2⟩:∃ q,q=S.emit ⟨11,0,0,eS⟩:=⟨_,rfl⟩;have p2:S2.ins.length=S.ins.length+1:=by rw [hS2,xk]
 rw [<- hS2] at e2 ⊢
 clear hS hS2;obtain ⟨a,l⟩:=t;simp only [xW,ex_frz,frA] at he hg
 rw [MProgram.enc_eq];unfold ansC;cases hl:S2.lost with
 | true=>
  rw [if_pos rfl];refine FCon.tagN ?_;refine FI PM Tryz.func18 Tryz.ntmps18 [] rfl rfl ?_
  (have hWf:=w2 @xB @hl;repeat' (first|refine zS ?_|refine zI ?_ ?_|refine zK hc ?_|refine zK hg ?_|refine zH he ?_|refine zH e2 ?_|exact zF0|refine zD fun hb=>?_|exact zC|refine zT ?_|fail))
 | false=>
  rw [if_neg (by simp)]
  refine FI PM Tryz.func18 Tryz.ntmps18 [] rfl rfl ?_
  (have hWf:=w2 @xB @hl;repeat' (first|refine zS ?_|refine zI ?_ ?_|refine zK hc ?_|refine zK hg ?_|refine zH he ?_|refine zH e2 ?_|exact zF0|refine zD fun hb=>?_|exact zC|refine zT ?_|fail))
end
section
attribute [local go_sem] List.getD_cons_succ
open Go.RowKit Arb
theorem xbw(T:List MType)(nodes:List MNode)(a:EI)(x:ET)(r:List ET)(m:Nat)(hA:At EI.node nodes m (.mk a (x::r)))(ix:SE T nodes x)(ox:okT x)(ir:∀ t∈r,SE T nodes t)(or:∀ t∈r,okT t)(hpl:a.pats.length=r.length)(hpm:∀ q∈a.pats,patM q.nodes=true)(env:List ByteArray)(s0:CS)(hb:BdS (.mk a (x::r)) env s0) :
  FT 143 [.opt (spD T nodes s0),.ag (a.node (idxs (m+1) (x::r))).enc,.sl 1 (env.map stE)] (fun r' o=>r'=.tup []/\o=[.opt (spD T nodes (matC (cmp false x) (a.pats.zip (r.map (cmp false))) env s0)),.un,.un]):=by
 obtain ⟨b1,b2,b3⟩:=hb;simp only [size_mk,sizeL_cons] at b1 b2 b3
 have zx:=size_pos x;have hrl:=sizeL_len r;have he:=yG a (idxs (m+1) (x::r));have hid:(idxs (m+1) (x::r)).map iE=[.s (.int .i64 ((m+1:Nat):Int))]::(idxs (m+1+x.size) r).map iE:=rfl;rw [hid] at he
 have hil:=idxs_len (m+1+x.size) r;have c1:=ix (m+1) env s0 hA.kids.head ⟨by omega,by omega,by omega⟩
 have q1:=And.intro ((xm false x ox).lo env s0) (And.intro ((xm false x ox).hi env s0) ((xm false x ox).phi env s0));have hR:AtL EI.node nodes (m+1+x.size) r:=hA.kids.tail;unfold matC;obtain ⟨s1,h1⟩:∃ q,q=cmp false x env s0:=⟨_,rfl⟩;rw [<- h1] at c1 q1 ⊢
 clear h1;rw [he];refine FI PM Tryz.func143 Tryz.ntmps143 [(6,10,[9],[(9,0)],(lin [9] [0,1,2,3,4,5,6,7,8,9])),(20,8,[],[],(lin [] [0,1,2,3,4,5,6,7])),(26,8,[],[],(lin [] [0,1,2,3,4,5,6,7]))] rfl rfl ?_
 (have hWf:=w1 @xO;repeat' (first|refine zS ?_|refine zI ?_ ?_|refine zH c1 ?_|exact zF0|refine zD fun hb=>?_|exact zC|refine zT ?_|fail))
 have hga:=fun (k:Nat)=>XT false (a.pats.take k) (r.take k) (fun t ht=>xm false t (or t (List.mem_of_mem_take ht))) env s1 []
 have hjs:=Vi (chk:=false) a.pats r or env s1 [] (by simp)
 have hgA:=XT false a.pats r (fun t ht=>xm false t (or t ht)) env s1 []
 have hjl:=fun (k:Nat) (h:k<=r.length)=>ZC (chk:=false) (a.pats.take k) (r.take k) env s1 [] (by simp;omega)
 have hzt:=Ve (chk:=false) (qs:=a.pats) (r:=r);refine xn (fun n σ=>∃ k:Nat,k<=a.pats.length/\n=a.pats.length - k/\σ.t 0=.bx 900000 0/\σ.t 2=.sl 1 (env.map stE)/\σ.t 4=.bx 4 0/\σ.b 4=some (.box [.s (.int .i64 a.kind),.s (.int .i64 a.at_),.s (.int .i64 a.n),.s (.string a.s),.sl 1 ([.s (.int .i64 ((m+1:Nat):Int))]::(idxs (m+1+x.size) r).map iE),.sl 1 (a.pats.map MPat.enc)]) /\
  σ.t 6=.bs 23 1 k/\σ.b 23=some (.arr 3 1 ((xx env ((a.pats.zip (r.map (cmp false))).take k) s1 []).2.map nE))/\σ.t 25=.sl 1 (a.pats.map MPat.enc)/\σ.t 26=.s (.int .i64 a.pats.length)/\σ.t 27=.s (.int .i64 k) /\
  σ.b 900000=some (.box [.sl 3 (T.map MType.enc),.sl 6 (nodes.map MNode.enc),.bs 3900000 4 (xx env ((a.pats.zip (r.map (cmp false))).take k) s1 []).1.ins.length,.bs 4900000 1 (xx env ((a.pats.zip (r.map (cmp false))).take k) s1 []).1.pats.length,.s (.bool (xx env ((a.pats.zip (r.map (cmp false))).take k) s1 []).1.lost)]) /\
  σ.b 3900000=some (.arr 49 4 ((xx env ((a.pats.zip (r.map (cmp false))).take k) s1 []).1.ins.map MIns.enc))/\σ.b 4900000=some (.arr 89 1 ((xx env ((a.pats.zip (r.map (cmp false))).take k) s1 []).1.pats.map MPat.enc))) a.pats.length ⟨0,by omega,by omega,?_⟩ ?_
 .simp only [go_sem,simprocAttr,Int.natCast_zero,List.take_zero,xx]
 .rintro n σ ⟨k,hk,rfl,h0,h2,h4,c4,h6,c9,h25,h26,h27,c0,d1,d2⟩ K' hK
  by_cases hlt:k<a.pats.length
  .have hlr:k<r.length:=by omega
   have hst:=xaQ (chk:=false) hlt hlr;have hsu:=ZD env a.pats[k] (cmp false r[k]) ((a.pats.zip (r.map (cmp false))).take k) s1 [];rw [<- hst] at hsu
   have g:=hga k;have jl:=hjl k (by omega)
   rw [<- hzt k] at g jl
   obtain ⟨S,hS⟩:∃ S,S=(xx env ((a.pats.zip (r.map (cmp false))).take k) s1 []).1:=⟨_,rfl⟩;obtain ⟨J,hJ⟩:∃ J,J=(xx env ((a.pats.zip (r.map (cmp false))).take k) s1 []).2:=⟨_,rfl⟩;rw [<- hS] at c0 d1 d2 g hsu
   rw [<- hJ] at c9 jl hsu
   have jl:J.length=k:=by rw [jl,List.length_take];simp;omega
   have hsp:=xaD hlr;have zr:=size_pos r[k];have hpo:=hpm a.pats[k] (List.getElem_mem hlt);have hpn:=XO a.pats[k].nodes;have hp6:=Zi hpo;have hpk:=Yw hpo;have hcp:=c_l10Copy a.pats[k].nodes (by omega) (fun y hy=>by have:=hpk y hy;omega)
   have e1:=xQ T nodes ⟨S.ins,S.pats++[a.pats[k]],S.lost⟩ 20 (((S.pats.length+1:Nat):Int) - 1) 0 eS (by show S.ins.length<=_;omega)
   have ha0:arm0 a.pats[k] S=(⟨S.ins,S.pats++[a.pats[k]],S.lost⟩:CS).emit ⟨20,((S.pats.length+1:Nat):Int) - 1,0,eS⟩:=by
    have:((S.pats.length+1:Nat):Int) - 1=(S.pats.length:Int):=by omega
    rw [this];rfl
   obtain ⟨S1,hS1⟩:∃ q,q=(⟨S.ins,S.pats++[a.pats[k]],S.lost⟩:CS).emit ⟨20,((S.pats.length+1:Nat):Int) - 1,0,eS⟩:=⟨_,rfl⟩;have p1:S1.ins.length=S.ins.length+1:=by rw [hS1,xk]
   have p1p:S1.pats.length=S.pats.length+1:=by rw [hS1,Yt];simp
   rw [<- hS1] at e1 ha0
   simp only [xO T nodes ⟨S.ins,S.pats++[a.pats[k]],S.lost⟩,List.map_append,List.map_cons,List.map_nil] at e1
   have e2:=ir r[k] (List.getElem_mem hlr) _ (env++pnames a.pats[k].nodes) S1 (hR.at k hlr) ⟨by omega,by omega,by rw [List.length_append];omega⟩
   have q2:=And.intro ((xm false r[k] (or r[k] (List.getElem_mem hlr))).lo (env++pnames a.pats[k].nodes) S1) ((xm false r[k] (or r[k] (List.getElem_mem hlr))).hi (env++pnames a.pats[k].nodes) S1);obtain ⟨S2,hS2⟩:∃ q,q=cmp false r[k] (env++pnames a.pats[k].nodes) S1:=⟨_,rfl⟩;have hA1:arm1 a.pats[k] (cmp false r[k]) env S=(S2.emit ⟨15,(pnames a.pats[k].nodes).length,0,eS⟩).emit ⟨12,0,0,eS⟩:=by rw [hS2,<- ha0];rfl
   rw [<- hS2] at e2 q2
   have e3:=xQ T nodes S2 15 (pnames a.pats[k].nodes).length 0 eS (by omega)
   obtain ⟨S3,hS3⟩:∃ q,q=S2.emit ⟨15,(pnames a.pats[k].nodes).length,0,eS⟩:=⟨_,rfl⟩;have p3:S3.ins.length=S2.ins.length+1:=by rw [hS3,xk]
   rw [<- hS3] at e3 hA1
   have e4:=xQ T nodes S3 12 0 0 eS (by omega)
   obtain ⟨S4,hS4⟩:∃ q,q=S3.emit ⟨12,0,0,eS⟩:=⟨_,rfl⟩;have p4:S4.ins.length=S3.ins.length+1:=by rw [hS4,xk]
   rw [<- hS4] at e4 hA1
   have e5:=wO T nodes S4;have hAC:armC a.pats[k] (cmp false r[k]) env S=⟨setB S4.ins S.ins.length S4.ins.length,S4.pats,S4.lost⟩:=by unfold armC;rw [hA1]
   rw [hAC] at hsu
   have hil3:S.ins.length<S4.ins.length:=by omega
   have hx3:=xi MIns.enc S4.ins S.ins.length hil3;have he3:=MIns.enc_eq S4.ins[S.ins.length];have hst3:(S4.ins.map MIns.enc).set S.ins.length [.s (.int .i64 S4.ins[S.ins.length].op),.s (.int .i64 S4.ins[S.ins.length].a),.s (.int .i64 S4.ins.length),.s (.string S4.ins[S.ins.length].s)]=(setB S4.ins S.ins.length S4.ins.length).map MIns.enc:=by
    rw [setB_at' hil3,List.map_set];rfl
   have hx2:=xi MPat.enc a.pats k hlt;have hq:=MPat.enc_eq a.pats[k];rw [hq] at e1
   have hlt2:k<(idxs (m+1+x.size) r).length:=by rw [hil];exact hlr
   have hxi:=xi iE (idxs (m+1+x.size) r) k hlt2;have hei:iE (idxs (m+1+x.size) r)[k]=[.s (.int .i64 ((m+1+x.size+sizeL (r.take k):Nat):Int))]:=by rw [idxs_at (m+1+x.size) r k hlr];rfl
   have htn:((k:Int)+1).toNat=k+1:=by omega
   have hsl:=Xg S4.ins S.ins.length S4.ins.length;have hjn:S4.ins.length - 1=S3.ins.length:=by omega
   have htj:(J.map nE).take k=J.map nE:=List.take_of_length_le (by rw [List.length_map];omega)
   clear hS1 hS2 hS3 hS4 hA1 hAC ha0 hS hJ hjs hgA hga hjl
   (have hWf:=w10 @xO @h0 @h2 @h4 @c4 @h6 @c9 @h25 @h26 (ai @h27<|ai @c0<|ai @d1<|ai @d2<|ai @hx2<|@hq);repeat' (first|refine zS ?_|refine zI ?_ ?_|refine zK hcp ?_|refine zH e1 ?_|exact zF0|refine zD fun hb=>?_|exact zC|refine zT ?_|fail))
   refine xn (fun n σ=>∃ j:Nat,j<=a.pats[k].nodes.length/\n=a.pats[k].nodes.length - j/\σ.t 0=.bx 900000 0/\σ.t 2=.sl 1 (env.map stE)/\σ.t 4=.bx 4 0/\σ.b 4=some (.box [.s (.int .i64 a.kind),.s (.int .i64 a.at_),.s (.int .i64 a.n),.s (.string a.s),.sl 1 ([.s (.int .i64 ((m+1:Nat):Int))]::(idxs (m+1+x.size) r).map iE),.sl 1 (a.pats.map MPat.enc)]) /\
    σ.t 6=.bs 23 1 k/\σ.b 23=some (.arr 3 1 (J.map nE))/\σ.t 7=.s (.int .i64 k)/\σ.t 9=.s (.int .i64 S.ins.length)/\σ.t 10=.sl 1 ((env++pnames (a.pats[k].nodes.take j)).map stE)/\σ.t 11=.s (.int .i64 (pnames (a.pats[k].nodes.take j)).length)/\σ.t 25=.sl 1 (a.pats.map MPat.enc)/\σ.t 26=.s (.int .i64 a.pats.length)/\σ.t 27=.s (.int .i64 k)/\σ.t 56=.sl 4 (a.pats[k].nodes.map DPNode.enc)/\σ.t 57=.s (.int .i64 a.pats[k].nodes.length)/\σ.t 58=.s (.int .i64 j) /\
    σ.b 900000=some (.box [.sl 3 (T.map MType.enc),.sl 6 (nodes.map MNode.enc),.bs 3900000 4 S1.ins.length,.bs 4900000 1 S1.pats.length,.s (.bool S1.lost)])/\σ.b 3900000=some (.arr 49 4 (S1.ins.map MIns.enc))/\σ.b 4900000=some (.arr 89 1 (S1.pats.map MPat.enc))) a.pats[k].nodes.length ⟨0,by omega,by omega,?_⟩ ?_
   .simp only [go_sem,simprocAttr,xO,h0,h2,h4,c4,h6,c9,h25,h26,h27,c0,d1,d2,hx2,hq,Int.natCast_zero,List.take_zero,pnames,List.append_nil]
   .rintro n σ ⟨j,hj,rfl,g0,g2,g4,f4,g6,f9,g7,g9,g10,g11,g25,g26,g27,g56,g57,g58,f0,f1,f2⟩ K'' hK''
    by_cases hjl:j<a.pats[k].nodes.length
    .have hxn:=xi DPNode.enc a.pats[k].nodes j hjl
     have hen:=DPNode.enc_eq a.pats[k].nodes[j];have hps:=WS hjl;have hpl2:=XO (a.pats[k].nodes.take j);rw [List.length_take] at hpl2
     by_cases h2k:a.pats[k].nodes[j].kind=2
     .have e2k:(a.pats[k].nodes[j].kind==2)=true:=by simpa using h2k
      rw [if_pos h2k] at hps
      have cu:=wo (env++pnames (a.pats[k].nodes.take j)) a.pats[k].nodes[j].s (by rw [List.length_append];omega)
      rw [List.append_assoc,<- hps] at cu
      (have hWf:=w10 @g0 @g2 @g4 @f4 @g6 @f9 @g7 @g9 @g10 (ai @g11<|ai @g25<|ai @g26<|ai @g27<|ai @g56<|ai @g57<|ai @g58<|ai @f0<|ai @f1<|ai @f2<|ai @hxn<|ai @hen<|@e2k);repeat' (first|refine zS ?_|refine zI ?_ ?_|refine zK cu ?_|exact zF0|refine zD fun hb=>?_|exact zC|refine zT ?_|fail))
      refine hK'' (a.pats[k].nodes.length - (j+1)) _ (by omega) ⟨j+1,by omega,rfl,?_⟩
      simp only [go_sem,simprocAttr,g0,g2,g4,f4,g6,f9,g7,g9,g10,g11,g25,g26,g27,g56,g57,g58,f0,f1,f2,Int.natCast_succ]
      all_goals (rw [hps];exact xN (by simp))
     .have e2k:(a.pats[k].nodes[j].kind==2)=false:=by simpa using h2k
      rw [if_neg h2k] at hps
      (have hWf:=w10 @g0 @g2 @g4 @f4 @g6 @f9 @g7 @g9 @g10 (ai @g11<|ai @g25<|ai @g26<|ai @g27<|ai @g56<|ai @g57<|ai @g58<|ai @f0<|ai @f1<|ai @f2<|ai @hxn<|ai @hen<|@e2k);repeat' (first|refine zS ?_|refine zI ?_ ?_|exact zF0|refine zD fun hb=>?_|exact zC|refine zT ?_|fail))
      refine hK'' (a.pats[k].nodes.length - (j+1)) _ (by omega) ⟨j+1,by omega,rfl,?_⟩
      simp only [go_sem,simprocAttr,g0,g2,g4,f4,g6,f9,g7,g9,g10,g11,g25,g26,g27,g56,g57,g58,f0,f1,f2,Int.natCast_succ,hps]
    .obtain rfl:j=a.pats[k].nodes.length:=by omega
     rw [List.take_length] at g10 g11
     (have hWf:=w10 @xO @g0 @g2 @g4 @f4 @g6 @f9 @g7 @g9 (ai @g10<|ai @g11<|ai @g25<|ai @g26<|ai @g27<|ai @g56<|ai @g57<|ai @g58<|ai @f0<|ai @f1<|ai @f2<|ai @hxi<|ai @hei<|ai @hil<|ai @htn<|ai @hx3<|ai @he3<|ai @hst3<|@hsl);repeat' (first|refine zS ?_|refine zI ?_ ?_|refine zH e2 ?_|refine zH e3 ?_|refine zH e4 ?_|refine zK e5 ?_|exact zF0|refine zD fun hb=>?_|exact zC|refine zT ?_|fail))
     refine hK (a.pats.length - (k+1)) _ (by omega) ⟨k+1,by omega,rfl,?_⟩
     simp only [go_sem,simprocAttr,xO,g0,g2,g4,f4,g6,f9,g7,g9,g10,g11,g25,g26,g27,g56,g57,g58,f0,f1,f2,Int.natCast_succ,hsu,List.map_append,hjn,nE_eq,hsl,htj]
  .obtain rfl:k=a.pats.length:=by omega
   rw [Wi (by omega)] at c0 c9 d1 d2
   have jl:=hjl r.length (by omega)
   rw [List.take_length,hpl.symm,List.take_length] at jl
   obtain ⟨S,hS⟩:∃ S,S=(xx env (a.pats.zip (r.map (cmp false))) s1 []).1:=⟨_,rfl⟩;obtain ⟨J,hJ⟩:∃ J,J=(xx env (a.pats.zip (r.map (cmp false))) s1 []).2:=⟨_,rfl⟩;rw [<- hS] at c0 d1 d2 hjs hgA ⊢
   rw [<- hJ] at c9 hjs jl ⊢
   have e1:=xQ T nodes S 21 0 0 eS (by omega)
   obtain ⟨S1,hS1⟩:∃ q,q=S.emit ⟨21,0,0,eS⟩:=⟨_,rfl⟩;have p1:S1.ins.length=S.ins.length+1:=by rw [hS1,xk]
   rw [<- hS1] at e1 ⊢
   have jl:J.length=a.pats.length:=by simpa using jl
   have hSb:S.ins.length<=100000:=by omega
   clear hS hJ hga hgA hjl hzt hS1
   (have hWf:=w10 @xO @h0 @h2 @h4 @c4 @h6 @c9 @h25 @h26 (ai @h27<|ai @c0<|ai @d1<|ai @d2<|@jl);repeat' (first|refine zS ?_|refine zI ?_ ?_|refine zH e1 ?_|exact zF0|refine zD fun hb=>?_|exact zC|refine zT ?_|fail))
   refine xn (fun n σ=>∃ k:Nat,k<=J.length/\n=J.length - k/\σ.t 0=.bx 900000 0/\σ.b 23=some (.arr 3 1 (J.map nE))/\σ.t 102=.bs 23 1 J.length/\σ.t 103=.s (.int .i64 J.length)/\σ.t 104=.s (.int .i64 k) /\
    σ.b 900000=some (.box [.sl 3 (T.map MType.enc),.sl 6 (nodes.map MNode.enc),.bs 3900000 4 (xY S1 (J.take k)).ins.length,.bs 4900000 1 (xY S1 (J.take k)).pats.length,.s (.bool (xY S1 (J.take k)).lost)]) /\
    σ.b 3900000=some (.arr 49 4 ((xY S1 (J.take k)).ins.map MIns.enc))/\σ.b 4900000=some (.arr 89 1 ((xY S1 (J.take k)).pats.map MPat.enc))) J.length ⟨0,by omega,by omega,?_⟩ ?_
   .simp only [go_sem,simprocAttr,xO,h0,h2,h4,c4,h6,c9,h25,h26,h27,c0,d1,d2,jl,Int.natCast_zero,List.take_zero,xY]
   .rintro n σ ⟨k,hk,rfl,g0,g19,g94,g95,g96,f0,f1,f2⟩ K'' hK''
    by_cases hlt:k<J.length
    .have hx:=xi nE J k hlt
     have he:=nE_eq J[k];have hj:=hjs J[k] (List.getElem_mem hlt);have hh:=ZX (J.take k) S1 J[k];rw [<- List.take_succ_eq_append_getElem hlt] at hh
     have hlen:=(wv S1 (J.take k)).1;obtain ⟨Q,hQ⟩:∃ Q,Q=xY S1 (J.take k):=⟨_,rfl⟩;rw [<- hQ] at hh hlen f0 f1 f2
     have e2:=wO T nodes Q;have hiq:J[k]<Q.ins.length:=by omega
     have hx3:=xi MIns.enc Q.ins J[k] hiq;have he3:=MIns.enc_eq Q.ins[J[k]];have hw:=Xa hiq;have hn:=yc Q J[k];clear hQ
     (have hWf:=w10 @xO @g0 @g19 @g94 @g95 @g96 @f0 @f1 @f2 (ai @hx<|ai @he<|ai @hx3<|ai @he3<|ai @hw<|@hn);repeat' (first|refine zS ?_|refine zI ?_ ?_|refine zK e2 ?_|exact zF0|refine zD fun hb=>?_|exact zC|refine zT ?_|fail))
     refine hK'' (J.length - (k+1)) _ (by omega) ⟨k+1,by omega,rfl,?_⟩
     simp only [go_sem,simprocAttr,g0,g19,g94,g95,g96,f0,f1,f2,Int.natCast_succ,xO,hh,hn,ZW,ZV]
    .obtain rfl:k=J.length:=by omega
     rw [List.take_length] at f0 f1 f2
     (have hWf:=w9 @xO @g0 @g19 @g94 @g95 @g96 @f0 @f1 @f2;repeat' (first|refine zS ?_|refine zI ?_ ?_|exact zF0|refine zD fun hb=>?_|exact zC|refine zT ?_|fail))
     all_goals rfl
theorem exprS_mat(T:List MType)(nodes:List MNode)(a:EI)(x:ET)(r:List ET)(m:Nat)(hA:At EI.node nodes m (.mk a (x::r)))(ix:SE T nodes x)(ox:okT x)(ir:∀ t∈r,SE T nodes t)(or:∀ t∈r,okT t)(hpl:a.pats.length=r.length)(hpm:∀ q∈a.pats,patM q.nodes=true)(env:List ByteArray)(s0:CS)(hb:BdS (.mk a (x::r)) env s0)(k:a.kind=13) :
  FT 57 [.opt (spD T nodes s0),.s (.int .i64 m),.sl 1 (env.map stE)] (fun r' o=>r'=.tup []/\o=[.opt (spD T nodes (cmp false (.mk a (x::r)) env s0)),.un,.un]):=by
 have hx:=zk hA;have he:=yG a (idxs (m+1) (x::r));have hlt:=hA.lt;have hop:FT 138 [.s (.int .i64 13)] (fun r _=>r=.s (.int .i64 0)):=zQ 13 (by omega)
 have c1:=xbw T nodes a x r m hA ix ox ir or hpl hpm env s0 hb;rw [vm (zW s0) k];obtain ⟨s1,h1⟩:∃ q,q=matC (cmp false x) (a.pats.zip (r.map (cmp false))) env s0:=⟨_,rfl⟩;rw [<- h1] at c1 ⊢
 clear h1;rw [he,k] at c1
 refine FI PM Tryz.func57 Tryz.ntmps57 [(36,9,[],[],(lin [] [0,1,2,3,4,5,6,7,8])),(43,8,[],[],(lin [] [0,1,2,3,4,5,6,7])),(45,8,[],[],(lin [] [0,1,2,3,4,5,6,7])),(51,8,[],[],(lin [] [0,1,2,3,4,5,6,7])),(52,9,[],[],(lin [] [0,1,2,3,4,5,6,7,8])),(54,8,[],[],(lin [] [0,1,2,3,4,5,6,7]))] rfl rfl ?_
 (have hWf:=w4 @xO @hx @he @k;repeat' (first|refine zS ?_|refine zI ?_ ?_|refine zK hop ?_|refine zH c1 ?_|exact zF0|refine zD fun hb=>?_|exact zC|refine zT ?_|fail))
 all_goals first|rfl|skip
theorem c_l10Expr(T:List MType)(nodes:List MNode):∀ t:ET,okT t->SE T nodes t:=fun t=>by
 induction t using Arb.indS with
 | h t ih=>
  intro ok m env s hA hb;obtain ⟨a,l⟩:=t;have ok1:=ok.kid;have ihk:∀ t∈l,SE T nodes t:=fun t ht=>ih t (size_lt ht) (ok1 t ht)
  have v:=ok.root.v;cases v with
  | int k e=>subst e;exact exprS_int T nodes a m env s hA hb k
  | str k e=>subst e;exact exprS_str T nodes a m env s hA hb k
  | con0 k e=>subst e;exact xbE T nodes a m env s hA hb k
  | cons b x y k e=>subst e;exact U0 T nodes a _ (ihk _ (by simp)) (ok1 _ (by simp)) m env s hA hb k
  | con1 x k e=>subst e;exact U0 T nodes a _ (ihk _ (by simp)) (ok1 _ (by simp)) m env s hA hb k
  | app x y k e hs=>subst e;exact uA6 T nodes a _ ok ihk m env s hA hb (by rw [k];decide) (by unfold endI opK;simp [k,Wr hs])
  | prim x y k e hs=>subst e;exact uA6 T nodes a _ ok ihk m env s hA hb (by rw [k];decide) (by unfold endI opK;simp [k])
  | pair x y k e hs=>subst e;exact uA6 T nodes a _ ok ihk m env s hA hb (by rw [k];decide) (by unfold endI opK;simp [k,Wr hs])
  | unit k e=>subst e;exact xbJ T nodes a m env s hA hb k
  | raise x k e hs=>subst e;exact uA6 T nodes a _ ok ihk m env s hA hb (by rw [k];decide) (by unfold endI opK;simp [k,Wr hs])
  | ref x k e hs=>subst e;exact uA6 T nodes a _ ok ihk m env s hA hb (by rw [k];decide) (by unfold endI opK;simp [k,Wr hs])
  | get x k e hs=>subst e;exact uA6 T nodes a _ ok ihk m env s hA hb (by rw [k];decide) (by unfold endI opK;simp [k,Wr hs])
  | set x y k e hs=>subst e;exact uA6 T nodes a _ ok ihk m env s hA hb (by rw [k];decide) (by unfold endI opK;simp [k,Wr hs])
  | var k e=>subst e;exact exprS_var T nodes a m env s hA hb k
  | func x k e=>subst e;exact xbF T nodes a x (ihk x (by simp)) (ok1 x (by simp)) m env s hA hb k
  | rec_ b x y k e=>
   subst e;have okx:=(ok1 (.mk b [x]) (by simp)).kid x (by simp)
   exact xbH T nodes a b x y (ih x (size_lt2 (r:=[x]) (by simp) (List.mem_cons_self ..)) okx) okx (ihk y (by simp)) (ok1 y (by simp)) m env s hA hb k
  | seq x y k e=>subst e;exact exprS_seq T nodes a x y (ihk x (by simp)) (ok1 x (by simp)) (ihk y (by simp)) (ok1 y (by simp)) m env s hA hb k
  | let_ x y k e=>subst e;exact xbG T nodes a x y (ihk x (by simp)) (ok1 x (by simp)) (ihk y (by simp)) (ok1 y (by simp)) m env s hA hb k
  | if_ x y z k e=>subst e;exact exprS_if_ T nodes a x y z (ihk x (by simp)) (ok1 x (by simp)) (ihk y (by simp)) (ok1 y (by simp)) (ihk z (by simp)) (ok1 z (by simp)) m env s hA hb k
  | try_ x y k e=>subst e;exact xbI T nodes a x y (ihk x (by simp)) (ok1 x (by simp)) (ihk y (by simp)) (ok1 y (by simp)) m env s hA hb k
  | mat x r k e hpl=>subst e;exact exprS_mat T nodes a x r m hA (ihk x (by simp)) (ok1 x (by simp)) (fun t ht=>ihk t (by simp [ht])) (fun t ht=>ok1 t (by simp [ht])) hpl ok.root.pm env s hb k
def ansW(s:CS):D:=if s.lost=true then .tup [.ag [.sl 4 [],.sl 1 []],.s (.bool false)] else .tup [.ag [.sl 4 (s.ins.map MIns.enc),.sl 1 (s.pats.map MPat.enc)],.s (.bool true)]
theorem FCon.tagS{P:Program}{f:FuncId}{args:List D}{k k':Nat}{c:D}(h:FCon P f args (fun r _=>r=.tup [.ag [.nil,.nil],c])):FCon P f args (fun r _=>r=.tup [.ag [.sl k [],.sl k' []],c]):=h.wk fun r o q=>by
 subst q;refine ⟨_,rfl,fun g w v hv=>QH (xs:=[.ag [.nil,.nil],c]) (xs':=[.ag [.sl k [],.sl k' []],c]) rfl (fun m x x' hx hx' u hu=>?_) hv⟩
 match m,hx,hx' with
 | 0,hx,hx'=>
  have hx:D.ag [.nil,.nil]=x:=Option.some.inj hx;have hx':D.ag [.sl k [],.sl k' []]=x':=Option.some.inj hx';subst hx hx';refine RN_agN (ys:=[.nil,.nil]) (ys':=[.sl k [],.sl k' []]) rfl (fun i d d' hd hd'=>?_) hu
  match i,hd,hd' with
  | 0,hd,hd'=>exact .inr ⟨by simpa using hd.symm,.inr ⟨_,by simpa using hd'.symm⟩⟩
  | 1,hd,hd'=>exact .inr ⟨by simpa using hd.symm,.inr ⟨_,by simpa using hd'.symm⟩⟩
  | i+2,hd,hd'=>simp at hd
 | 1,hx,hx'=>
  have hx:c=x:=Option.some.inj hx;have hx':c=x':=Option.some.inj hx';subst hx hx';exact hu
 | m+2,hx,hx'=>simp at hx
theorem WJ(p:MProgram)(ho:p.ok)(hs:p.sm)(hp:wI p=false):FT 19 [.ag p.enc] (fun r _=>r=.tup [.ag [.sl 4 [],.sl 1 []],.s (.bool false)]):=by
 refine FCon.tagS ?_;have hc:=Yq p ho hs;rw [hp,MProgram.enc_eq] at hc
 rw [MProgram.enc_eq];refine FI PM Tryz.func19 Tryz.ntmps19 [] rfl rfl ?_
 (have hWf:=f0;repeat' (first|refine zS ?_|refine zI ?_ ?_|refine zK hc ?_|exact zF0|refine zD fun hb=>?_|exact zC|refine zT ?_|fail))
theorem W6(p:MProgram)(ho:p.ok)(hs:p.sm)(hp:wI p=true)(t:ET)(ht:p.nodes=Arb.lay EI.node 0 t)(ok:okT t)(hz:t.size<=600):FT 19 [.ag p.enc] (fun r _=>r=ansW (yC false t)):=by
 have hc:=Yq p ho hs;rw [hp,MProgram.enc_eq] at hc
 have hA:=At.zero (f:=EI.node) t;rw [<- ht] at hA
 have gr:=xm false t ok;have g1:=gr.hi [] ⟨[],[],false⟩;have he:=c_l10Expr p.types p.nodes t ok 0 [] ⟨[],[],false⟩ hA ⟨by show 0+_<=_;omega,by show 0+_<=_;omega,by show 0+_<=_;omega⟩
 have he:=he.arg [.opt [.sl 3 (p.types.map MType.enc),.sl 6 (p.nodes.map MNode.enc),.nil,.nil,.s (.bool false)],.s (.int .i64 0),.nil] rfl fun j d' d h1 h2 g w u hu=>by
  match j,h1,h2 with
  | 0,h1,h2=>
   rw [<- Option.some.inj h2];rw [<- Option.some.inj h1] at hu
   refine RA_optN (row:=[.sl 3 (p.types.map MType.enc),.sl 6 (p.nodes.map MNode.enc),.nil,.nil,.s (.bool false)]) (row':=[.sl 3 (p.types.map MType.enc),.sl 6 (p.nodes.map MNode.enc),.osl 49 4 [],.osl 89 1 [],.s (.bool false)]) rfl (fun i d d' hd hd'=>?_) hu
   match i,hd,hd' with
   | 0,hd,hd'=>exact .inl (by rw [<- Option.some.inj hd,<- Option.some.inj hd'])
   | 1,hd,hd'=>exact .inl (by rw [<- Option.some.inj hd,<- Option.some.inj hd'])
   | 2,hd,hd'=>exact .inr ⟨by simpa using hd.symm,.inl ⟨_,_,by simpa using hd'.symm⟩⟩
   | 3,hd,hd'=>exact .inr ⟨by simpa using hd.symm,.inl ⟨_,_,by simpa using hd'.symm⟩⟩
   | 4,hd,hd'=>exact .inl (by rw [<- Option.some.inj hd,<- Option.some.inj hd'])
   | i+5,hd,hd'=>simp at hd
  | 1,h1,h2=>rw [<- Option.some.inj h2];rw [<- Option.some.inj h1] at hu;exact hu
  | 2,h1,h2=>
   rw [<- Option.some.inj h2];rw [<- Option.some.inj h1] at hu
   exact RA_nilS hu
  | j+3,h1,h2=>simp at h1
 obtain ⟨S,hS⟩:∃ S,S=cmp false t [] ⟨[],[],false⟩:=⟨_,rfl⟩;rw [<- hS] at he g1
 have g1:S.ins.length<=0+(4*t.size - 3):=g1;have e2:=xQ p.types p.nodes S 11 0 0 eS (by omega)
 unfold yC;rw [<- hS];obtain ⟨S2,hS2⟩:∃ q,q=S.emit ⟨11,0,0,eS⟩:=⟨_,rfl⟩;have p2:S2.ins.length=S.ins.length+1:=by rw [hS2,xk]
 rw [<- hS2] at e2 ⊢
 clear hS hS2;rw [MProgram.enc_eq];unfold ansW;cases hl:S2.lost with
 | true=>
  rw [if_pos rfl];refine FCon.tagS ?_;refine FI PM Tryz.func19 Tryz.ntmps19 [] rfl rfl ?_
  (have hWf:=w2 @xO @hl;repeat' (first|refine zS ?_|refine zI ?_ ?_|refine zK hc ?_|refine zH he ?_|refine zH e2 ?_|exact zF0|refine zD fun hb=>?_|exact zC|refine zT ?_|fail))
 | false=>
  rw [if_neg (by simp)]
  refine FCon.ice ?_;have hh:FT 19 [.ag [.sl 3 (p.types.map MType.enc),.sl 6 (p.nodes.map MNode.enc)]] (fun r _=>r=.tup [.ag [.osl 49 4 (S2.ins.map MIns.enc),.osl 89 1 (S2.pats.map MPat.enc)],.s (.bool true)]):=by
   refine FI PM Tryz.func19 Tryz.ntmps19 [] rfl rfl ?_
   (have hWf:=w2 @xO @hl;repeat' (first|refine zS ?_|refine zI ?_ ?_|refine zK hc ?_|refine zH he ?_|refine zH e2 ?_|exact zF0|refine zD fun hb=>?_|exact zC|refine zT ?_|fail))
  exact hh.mono fun r _ e=>by subst e;simp only [frA,frzL,List.map_cons,List.map_nil,frz,MIns.frzS,MPat.frzE]
end
section
open Go.RowKit Arb
def XG(s:CS):MCode:=if s.lost=true then ⟨[],[]⟩ else ⟨s.ins,s.pats⟩
theorem ansC_eq(s:CS):ansC s=.tup [.ag (XG s).own,.s (.bool (!s.lost))]:=by
 unfold ansC XG;cases s.lost<;>rfl
theorem ansW_eq(s:CS):ansW s=.tup [.ag (XG s).enc,.s (.bool (!s.lost))]:=by
 unfold ansW XG;cases s.lost<;>rfl
structure CompAns(p:MProgram)(c:MCode)(b:Bool):Prop where
 impl:FT 18 [.ag p.enc] (fun r _=>r=.tup [.ag c.own,.s (.bool b)])
 spec:FT 19 [.ag p.enc] (fun r _=>r=.tup [.ag c.enc,.s (.bool b)])
 no:b=false->c=⟨[],[]⟩
 ok:b=true->wI p=true/\∃ t:ET,p.nodes=Arb.lay EI.node 0 t/\okT t/\t.size<=600/\(yC true t).lost=false/\c=⟨(yC true t).ins,(yC true t).pats⟩
theorem comp_both(p:MProgram)(ho:p.ok)(hs:p.sm):∃ c b,CompAns p c b:=by
 cases hp:wI p with
 | false=>exact ⟨⟨[],[]⟩,false,WI p ho hs hp,WJ p ho hs hp,fun _=>rfl,fun h=>by cases h⟩
 | true=>
  obtain ⟨t,ht,ok,hz,-,-⟩:=tree_of hp;have hi:=W2 p ho hs hp t ht ok hz;have hw:=W6 p ho hs hp t ht ok hz;have hr:Rl (yC true t) (yC false t):=(cmp_ag t ok [] ⟨[],[],false⟩ (by show 0+_<=_;omega)).same (u:=fun q=>q.emit ⟨11,0,0,eS⟩) fun _=>rfl
  rw [ansC_eq] at hi
  rw [ansW_eq] at hw
  have he:XG (yC false t)=XG (yC true t)/\(yC false t).lost=(yC true t).lost:=by
   rcases hr with e|⟨e1,e2⟩
   .rw [e];exact ⟨rfl,rfl⟩
   .exact ⟨by unfold XG;rw [e1,e2];rfl,by rw [e1,e2]⟩
  rw [he.1,he.2] at hw
  refine ⟨_,_,hi,hw,fun h=>?_,fun h=>⟨hp,t,ht,ok,hz,?_,?_⟩⟩
  .have:(yC true t).lost=true:=by simpa using h
   unfold XG;rw [if_pos this]
  .simpa using h
  .have:(yC true t).lost=false:=by simpa using h
   unfold XG;rw [if_neg (by rw [this];simp)]
theorem code_sm{p:MProgram}{c:MCode}{b:Bool}(h:CompAns p c b)(hs:p.sm):c.sm/\c.cnt<=100000000:=by
 cases b with
 | false=>rw [h.no rfl];exact ⟨⟨⟨by simp,by simp⟩,by simp,by simp⟩,by simp [MCode.cnt,cnts]⟩
 | true=>
  obtain ⟨hp,t,ht,ok,hz,hl,rfl⟩:=h.ok rfl;have hA:=At.zero (f:=EI.node) t;rw [<- ht] at hA
  have hal:All (fun a _=>a.s.size<=1048576/\∀ q∈a.pats,q.sm/\patM q.nodes=true) t:=by
   have h1:All (fun a _=>a.s.size<=1048576/\∀ q∈a.pats,q.sm) t:=all_of t 0 hA fun j x l hj=>by
    have:=hs.2.2 _ (List.mem_of_getElem? hj.root);exact ⟨this.1,this.2.2.2⟩
   clear hl hz ht hA h
   induction t using Arb.ind with
   | h a l ih=>
    exact .mk ⟨h1.root.1,fun q hq=>⟨h1.root.2 q hq,ok.root.pm q hq⟩⟩ fun t ht=>ih t ht (ok.kid t ht) (h1.kid t ht)
  have hsm:=(cmp_sm true (R:=fun s=>s.size<=1048576) (Q:=fun q=>q.sm/\patM q.nodes=true) (by decide) t ok hal [] ⟨[],[],false⟩ ⟨by simp,by simp⟩).emit ⟨11,0,0,eS⟩ (by decide)
  have g:=xm true t ok;have g1:(yC true t).ins.length<=2400:=by
   have:=g.hi [] ⟨[],[],false⟩;have e:(yC true t).ins.length=(cmp true t [] ⟨[],[],false⟩).ins.length+1:=xk _ _;have:(cmp true t [] ⟨[],[],false⟩).ins.length<=0+(4*t.size - 3):=this;omega
  have g2:(yC true t).pats.length<=1200:=by
   have:=g.phi [] ⟨[],[],false⟩;have:(cmp true t [] ⟨[],[],false⟩).pats.length<=0+(2*t.size - 1):=this;show (cmp true t [] ⟨[],[],false⟩).pats.length<=_;omega
  refine ⟨⟨⟨by show (yC true t).ins.length<=_;omega,hsm.ins⟩,by show (yC true t).pats.length<=_;omega,fun q hq=>(hsm.pats q hq).1⟩,?_⟩
  rw [MCode.cnt_eq];have c1:cnts MIns.cnt (yC true t).ins=4*(yC true t).ins.length:=Y5 (fun _=>rfl) _
  have c2:cnts MPat.cnt (yC true t).pats<=(yC true t).pats.length*10000:=Y4 _ fun q hq=>by
   have hp:=(hsm.pats q hq).2;have h1:=Zi hp;have h2:=Yw hp;rw [MPat.cnt_eq];have:cnts DPNode.cnt q.nodes<=q.nodes.length*5:=Y4 _ fun x hx=>by
    have:=h2 x hx;rw [DPNode.cnt_eq,Y5 (n:=1) (fun _=>rfl)];omega
   omega
  show cnts MIns.cnt (yC true t).ins+cnts MPat.cnt (yC true t).pats<=_;omega
end
section
open Go.RowKit
theorem zf(op:Int):FT 61 [.s (.int .i64 op)] (fun r _=>r=.s (.bool (xq op))):=by
 refine FI PM Tryz.func61 Tryz.ntmps61 [] rfl rfl ?_
 (have hWf:=f0;repeat' (first|refine zS ?_|refine zI ?_ ?_|exact zF0|refine zD fun hb=>?_|exact zC|refine zT ?_|fail))
 all_goals rfl
theorem X7(c:MCode)(op a b:Int)(s:ByteArray)(hop:op=8\/op=9\/op=12)(hn:c.ins.length<=1048576)(hm:c.pats.length<=1048576)(hs:s.size<=maxLen):FT 69 [.ag c.enc,.ag (MIns.mk op a b s).enc] (fun r _=>r=.s (.bool (insM c.ins.length c.pats.length ⟨op,a,b,s⟩))):=by
 have hL:FT 61 [.s (.int .i64 op)] (fun r _=>r=.s (.bool true)):=by
  have h:=zf op
  rwa [show xq op=true by rcases hop with rfl|rfl|rfl<;>decide] at h
 rcases hop with rfl|rfl|rfl
 all_goals
  refine FI PM Tryz.func69 Tryz.ntmps69 [(21,12,[],[],(lin [] [0,1,2,3,4,5,6,7,8,9,10,11]))] rfl rfl ?_
  (have hWf:=w3 @MCode.enc_eq @MIns.enc_eq @lit0;repeat' (first|refine zS ?_|refine zI ?_ ?_|refine zK hL ?_|((with_reducible apply xc);refine zG (xv _ _ _) ?_)|((with_reducible apply xj);refine xg (xv _ _ _) ?_)|((with_reducible apply xc);refine zG (xy s hs _ _) ?_)|((with_reducible apply xj);refine xg (xy s hs _ _) ?_)|refine zK yl ?_|refine zK (yP s) ?_|exact zF0|refine zD fun hb=>?_|exact zC|refine zT ?_|fail))
  all_goals first
  | exact fun h=>⟨h,by omega,by omega⟩
  | exact fun h=>⟨h,by omega⟩
  | (refine sB ?_;unfold insM xq;simp;done)
  | (refine sB ?_;unfold insM xq;simp;grind)
  | (refine sB ?_;unfold insM xq;rw [Bool.eq_iff_iff];simp;omega)
  | (trace_state;sorry)
theorem ZY(c:MCode)(op a b:Int)(s:ByteArray)(hop:op=13\/op=18)(hn:c.ins.length<=1048576)(hm:c.pats.length<=1048576)(hs:s.size<=maxLen):FT 69 [.ag c.enc,.ag (MIns.mk op a b s).enc] (fun r _=>r=.s (.bool (insM c.ins.length c.pats.length ⟨op,a,b,s⟩))):=by
 have hL:FT 61 [.s (.int .i64 op)] (fun r _=>r=.s (.bool true)):=by
  have h:=zf op
  rwa [show xq op=true by rcases hop with rfl|rfl<;>decide] at h
 rcases hop with rfl|rfl
 all_goals
  refine FI PM Tryz.func69 Tryz.ntmps69 [(21,12,[],[],(lin [] [0,1,2,3,4,5,6,7,8,9,10,11]))] rfl rfl ?_
  (have hWf:=w3 @MCode.enc_eq @MIns.enc_eq @lit0;repeat' (first|refine zS ?_|refine zI ?_ ?_|refine zK hL ?_|((with_reducible apply xc);refine zG (xv _ _ _) ?_)|((with_reducible apply xj);refine xg (xv _ _ _) ?_)|((with_reducible apply xc);refine zG (xy s hs _ _) ?_)|((with_reducible apply xj);refine xg (xy s hs _ _) ?_)|refine zK yl ?_|refine zK (yP s) ?_|exact zF0|refine zD fun hb=>?_|exact zC|refine zT ?_|fail))
  all_goals first
  | exact fun h=>⟨h,by omega,by omega⟩
  | exact fun h=>⟨h,by omega⟩
  | (refine sB ?_;unfold insM xq;simp;done)
  | (refine sB ?_;unfold insM xq;simp;grind)
  | (refine sB ?_;unfold insM xq;rw [Bool.eq_iff_iff];simp;omega)
  | (trace_state;sorry)
theorem xad(c:MCode)(op a b:Int)(s:ByteArray)(hop:op=20)(hn:c.ins.length<=1048576)(hm:c.pats.length<=1048576)(hs:s.size<=maxLen):FT 69 [.ag c.enc,.ag (MIns.mk op a b s).enc] (fun r _=>r=.s (.bool (insM c.ins.length c.pats.length ⟨op,a,b,s⟩))):=by
 have hL:FT 61 [.s (.int .i64 op)] (fun r _=>r=.s (.bool false)):=by
  have h:=zf op
  rwa [show xq op=false by rcases hop with rfl<;>decide] at h
 rcases hop with rfl
 all_goals
  refine FI PM Tryz.func69 Tryz.ntmps69 [(21,12,[],[],(lin [] [0,1,2,3,4,5,6,7,8,9,10,11]))] rfl rfl ?_
  (have hWf:=w3 @MCode.enc_eq @MIns.enc_eq @lit0;repeat' (first|refine zS ?_|refine zI ?_ ?_|refine zK hL ?_|((with_reducible apply xc);refine zG (xv _ _ _) ?_)|((with_reducible apply xj);refine xg (xv _ _ _) ?_)|((with_reducible apply xc);refine zG (xy s hs _ _) ?_)|((with_reducible apply xj);refine xg (xy s hs _ _) ?_)|refine zK yl ?_|refine zK (yP s) ?_|exact zF0|refine zD fun hb=>?_|exact zC|refine zT ?_|fail))
  all_goals first
  | exact fun h=>⟨h,by omega,by omega⟩
  | exact fun h=>⟨h,by omega⟩
  | (refine sB ?_;unfold insM xq;simp;done)
  | (refine sB ?_;unfold insM xq;simp;grind)
  | (refine sB ?_;unfold insM xq;rw [Bool.eq_iff_iff];simp;omega)
  | (trace_state;sorry)
theorem ZZ(c:MCode)(op a b:Int)(s:ByteArray)(hop:op=6\/op=15)(hn:c.ins.length<=1048576)(hm:c.pats.length<=1048576)(hs:s.size<=maxLen):FT 69 [.ag c.enc,.ag (MIns.mk op a b s).enc] (fun r _=>r=.s (.bool (insM c.ins.length c.pats.length ⟨op,a,b,s⟩))):=by
 have hL:FT 61 [.s (.int .i64 op)] (fun r _=>r=.s (.bool false)):=by
  have h:=zf op
  rwa [show xq op=false by rcases hop with rfl|rfl<;>decide] at h
 rcases hop with rfl|rfl
 all_goals
  refine FI PM Tryz.func69 Tryz.ntmps69 [(21,12,[],[],(lin [] [0,1,2,3,4,5,6,7,8,9,10,11]))] rfl rfl ?_
  (have hWf:=w3 @MCode.enc_eq @MIns.enc_eq @lit0;repeat' (first|refine zS ?_|refine zI ?_ ?_|refine zK hL ?_|((with_reducible apply xc);refine zG (xv _ _ _) ?_)|((with_reducible apply xj);refine xg (xv _ _ _) ?_)|((with_reducible apply xc);refine zG (xy s hs _ _) ?_)|((with_reducible apply xj);refine xg (xy s hs _ _) ?_)|refine zK yl ?_|refine zK (yP s) ?_|exact zF0|refine zD fun hb=>?_|exact zC|refine zT ?_|fail))
  all_goals first
  | exact fun h=>⟨h,by omega,by omega⟩
  | exact fun h=>⟨h,by omega⟩
  | (refine sB ?_;unfold insM xq;simp;done)
  | (refine sB ?_;unfold insM xq;simp;grind)
  | (refine sB ?_;unfold insM xq;rw [Bool.eq_iff_iff];simp;omega)
  | (trace_state;sorry)
theorem xae(c:MCode)(op a b:Int)(s:ByteArray)(hop:op=1)(hn:c.ins.length<=1048576)(hm:c.pats.length<=1048576)(hs:s.size<=maxLen):FT 69 [.ag c.enc,.ag (MIns.mk op a b s).enc] (fun r _=>r=.s (.bool (insM c.ins.length c.pats.length ⟨op,a,b,s⟩))):=by
 have hL:FT 61 [.s (.int .i64 op)] (fun r _=>r=.s (.bool false)):=by
  have h:=zf op
  rwa [show xq op=false by rcases hop with rfl<;>decide] at h
 rcases hop with rfl
 all_goals
  refine FI PM Tryz.func69 Tryz.ntmps69 [(21,12,[],[],(lin [] [0,1,2,3,4,5,6,7,8,9,10,11]))] rfl rfl ?_
  (have hWf:=w3 @MCode.enc_eq @MIns.enc_eq @lit0;repeat' (first|refine zS ?_|refine zI ?_ ?_|refine zK hL ?_|((with_reducible apply xc);refine zG (xv _ _ _) ?_)|((with_reducible apply xj);refine xg (xv _ _ _) ?_)|((with_reducible apply xc);refine zG (xy s hs _ _) ?_)|((with_reducible apply xj);refine xg (xy s hs _ _) ?_)|refine zK yl ?_|refine zK (yP s) ?_|exact zF0|refine zD fun hb=>?_|exact zC|refine zT ?_|fail))
  all_goals first
  | exact fun h=>⟨h,by omega,by omega⟩
  | exact fun h=>⟨h,by omega⟩
  | (refine sB ?_;unfold insM xq;simp;done)
  | (refine sB ?_;unfold insM xq;simp;grind)
  | (refine sB ?_;unfold insM xq;rw [Bool.eq_iff_iff];simp;omega)
  | (trace_state;sorry)
theorem xaf(c:MCode)(op a b:Int)(s:ByteArray)(hop:op=2)(hn:c.ins.length<=1048576)(hm:c.pats.length<=1048576)(hs:s.size<=maxLen):FT 69 [.ag c.enc,.ag (MIns.mk op a b s).enc] (fun r _=>r=.s (.bool (insM c.ins.length c.pats.length ⟨op,a,b,s⟩))):=by
 have hL:FT 61 [.s (.int .i64 op)] (fun r _=>r=.s (.bool false)):=by
  have h:=zf op
  rwa [show xq op=false by rcases hop with rfl<;>decide] at h
 rcases hop with rfl
 all_goals
  refine FI PM Tryz.func69 Tryz.ntmps69 [(21,12,[],[],(lin [] [0,1,2,3,4,5,6,7,8,9,10,11]))] rfl rfl ?_
  (have hWf:=w3 @MCode.enc_eq @MIns.enc_eq @lit0;repeat' (first|refine zS ?_|refine zI ?_ ?_|refine zK hL ?_|((with_reducible apply xc);refine zG (xv _ _ _) ?_)|((with_reducible apply xj);refine xg (xv _ _ _) ?_)|((with_reducible apply xc);refine zG (xy s hs _ _) ?_)|((with_reducible apply xj);refine xg (xy s hs _ _) ?_)|refine zK yl ?_|refine zK (yP s) ?_|exact zF0|refine zD fun hb=>?_|exact zC|refine zT ?_|fail))
  all_goals first
  | exact fun h=>⟨h,by omega,by omega⟩
  | exact fun h=>⟨h,by omega⟩
  | (refine sB ?_;unfold insM xq;simp;done)
  | (refine sB ?_;unfold insM xq;simp;grind)
  | (refine sB ?_;unfold insM xq;rw [Bool.eq_iff_iff];simp;omega)
  | (trace_state;sorry)
theorem vL(c:MCode)(op a b:Int)(s:ByteArray)(hop:op=3\/op=5\/op=10\/op=11)(hn:c.ins.length<=1048576)(hm:c.pats.length<=1048576)(hs:s.size<=maxLen):FT 69 [.ag c.enc,.ag (MIns.mk op a b s).enc] (fun r _=>r=.s (.bool (insM c.ins.length c.pats.length ⟨op,a,b,s⟩))):=by
 have hL:FT 61 [.s (.int .i64 op)] (fun r _=>r=.s (.bool false)):=by
  have h:=zf op
  rwa [show xq op=false by rcases hop with rfl|rfl|rfl|rfl<;>decide] at h
 rcases hop with rfl|rfl|rfl|rfl
 all_goals
  refine FI PM Tryz.func69 Tryz.ntmps69 [(21,12,[],[],(lin [] [0,1,2,3,4,5,6,7,8,9,10,11]))] rfl rfl ?_
  (have hWf:=w3 @MCode.enc_eq @MIns.enc_eq @lit0;repeat' (first|refine zS ?_|refine zI ?_ ?_|refine zK hL ?_|((with_reducible apply xc);refine zG (xv _ _ _) ?_)|((with_reducible apply xj);refine xg (xv _ _ _) ?_)|((with_reducible apply xc);refine zG (xy s hs _ _) ?_)|((with_reducible apply xj);refine xg (xy s hs _ _) ?_)|refine zK yl ?_|refine zK (yP s) ?_|exact zF0|refine zD fun hb=>?_|exact zC|refine zT ?_|fail))
  all_goals first
  | exact fun h=>⟨h,by omega,by omega⟩
  | exact fun h=>⟨h,by omega⟩
  | (refine sB ?_;unfold insM xq;simp;done)
  | (refine sB ?_;unfold insM xq;simp;grind)
  | (refine sB ?_;unfold insM xq;rw [Bool.eq_iff_iff];simp;omega)
  | (trace_state;sorry)
theorem X8(c:MCode)(op a b:Int)(s:ByteArray)(hop:op=14\/op=17\/op=19)(hn:c.ins.length<=1048576)(hm:c.pats.length<=1048576)(hs:s.size<=maxLen):FT 69 [.ag c.enc,.ag (MIns.mk op a b s).enc] (fun r _=>r=.s (.bool (insM c.ins.length c.pats.length ⟨op,a,b,s⟩))):=by
 have hL:FT 61 [.s (.int .i64 op)] (fun r _=>r=.s (.bool false)):=by
  have h:=zf op
  rwa [show xq op=false by rcases hop with rfl|rfl|rfl<;>decide] at h
 rcases hop with rfl|rfl|rfl
 all_goals
  refine FI PM Tryz.func69 Tryz.ntmps69 [(21,12,[],[],(lin [] [0,1,2,3,4,5,6,7,8,9,10,11]))] rfl rfl ?_
  (have hWf:=w3 @MCode.enc_eq @MIns.enc_eq @lit0;repeat' (first|refine zS ?_|refine zI ?_ ?_|refine zK hL ?_|((with_reducible apply xc);refine zG (xv _ _ _) ?_)|((with_reducible apply xj);refine xg (xv _ _ _) ?_)|((with_reducible apply xc);refine zG (xy s hs _ _) ?_)|((with_reducible apply xj);refine xg (xy s hs _ _) ?_)|refine zK yl ?_|refine zK (yP s) ?_|exact zF0|refine zD fun hb=>?_|exact zC|refine zT ?_|fail))
  all_goals first
  | exact fun h=>⟨h,by omega,by omega⟩
  | exact fun h=>⟨h,by omega⟩
  | (refine sB ?_;unfold insM xq;simp;done)
  | (refine sB ?_;unfold insM xq;simp;grind)
  | (refine sB ?_;unfold insM xq;rw [Bool.eq_iff_iff];simp;omega)
  | (trace_state;sorry)
theorem X9(c:MCode)(op a b:Int)(s:ByteArray)(hop:op=21\/op=22\/op=23)(hn:c.ins.length<=1048576)(hm:c.pats.length<=1048576)(hs:s.size<=maxLen):FT 69 [.ag c.enc,.ag (MIns.mk op a b s).enc] (fun r _=>r=.s (.bool (insM c.ins.length c.pats.length ⟨op,a,b,s⟩))):=by
 have hL:FT 61 [.s (.int .i64 op)] (fun r _=>r=.s (.bool false)):=by
  have h:=zf op
  rwa [show xq op=false by rcases hop with rfl|rfl|rfl<;>decide] at h
 rcases hop with rfl|rfl|rfl
 all_goals
  refine FI PM Tryz.func69 Tryz.ntmps69 [(21,12,[],[],(lin [] [0,1,2,3,4,5,6,7,8,9,10,11]))] rfl rfl ?_
  (have hWf:=w3 @MCode.enc_eq @MIns.enc_eq @lit0;repeat' (first|refine zS ?_|refine zI ?_ ?_|refine zK hL ?_|((with_reducible apply xc);refine zG (xv _ _ _) ?_)|((with_reducible apply xj);refine xg (xv _ _ _) ?_)|((with_reducible apply xc);refine zG (xy s hs _ _) ?_)|((with_reducible apply xj);refine xg (xy s hs _ _) ?_)|refine zK yl ?_|refine zK (yP s) ?_|exact zF0|refine zD fun hb=>?_|exact zC|refine zT ?_|fail))
  all_goals first
  | exact fun h=>⟨h,by omega,by omega⟩
  | exact fun h=>⟨h,by omega⟩
  | (refine sB ?_;unfold insM xq;simp;done)
  | (refine sB ?_;unfold insM xq;simp;grind)
  | (refine sB ?_;unfold insM xq;rw [Bool.eq_iff_iff];simp;omega)
  | (trace_state;sorry)
theorem Z0(c:MCode)(op a b:Int)(s:ByteArray)(hop:op=24\/op=25)(hn:c.ins.length<=1048576)(hm:c.pats.length<=1048576)(hs:s.size<=maxLen):FT 69 [.ag c.enc,.ag (MIns.mk op a b s).enc] (fun r _=>r=.s (.bool (insM c.ins.length c.pats.length ⟨op,a,b,s⟩))):=by
 have hL:FT 61 [.s (.int .i64 op)] (fun r _=>r=.s (.bool false)):=by
  have h:=zf op
  rwa [show xq op=false by rcases hop with rfl|rfl<;>decide] at h
 rcases hop with rfl|rfl
 all_goals
  refine FI PM Tryz.func69 Tryz.ntmps69 [(21,12,[],[],(lin [] [0,1,2,3,4,5,6,7,8,9,10,11]))] rfl rfl ?_
  (have hWf:=w3 @MCode.enc_eq @MIns.enc_eq @lit0;repeat' (first|refine zS ?_|refine zI ?_ ?_|refine zK hL ?_|((with_reducible apply xc);refine zG (xv _ _ _) ?_)|((with_reducible apply xj);refine xg (xv _ _ _) ?_)|((with_reducible apply xc);refine zG (xy s hs _ _) ?_)|((with_reducible apply xj);refine xg (xy s hs _ _) ?_)|refine zK yl ?_|refine zK (yP s) ?_|exact zF0|refine zD fun hb=>?_|exact zC|refine zT ?_|fail))
  all_goals first
  | exact fun h=>⟨h,by omega,by omega⟩
  | exact fun h=>⟨h,by omega⟩
  | (refine sB ?_;unfold insM xq;simp;done)
  | (refine sB ?_;unfold insM xq;simp;grind)
  | (refine sB ?_;unfold insM xq;rw [Bool.eq_iff_iff];simp;omega)
  | (trace_state;sorry)
theorem Vr(c:MCode)(a b:Int)(s:ByteArray)(hn:c.ins.length<=1048576)(hm:c.pats.length<=1048576)(hs:s.size<=maxLen):FT 69 [.ag c.enc,.ag (MIns.mk 4 a b s).enc] (fun r _=>r=.s (.bool (insM c.ins.length c.pats.length ⟨4,a,b,s⟩))):=by
 have hL:FT 61 [.s (.int .i64 4)] (fun r _=>r=.s (.bool false)):=by
  have h:=zf 4
  rwa [show xq 4=false by decide] at h
 have e:insM c.ins.length c.pats.length ⟨4,a,b,s⟩=(decide (0<=a)&&decide (a<=1)&&(b==0)&&yv s a.toNat true):=by unfold insM xq;simp
 rw [e]
 by_cases h0:a=0
 .subst h0
  cases hb0:(b==0)
  all_goals
   refine FI PM Tryz.func69 Tryz.ntmps69 [(21,12,[],[],(lin [] [0,1,2,3,4,5,6,7,8,9,10,11]))] rfl rfl ?_
   (have hWf:=w4 @MCode.enc_eq @MIns.enc_eq @lit0 @hb0;repeat' (first|refine zS ?_|refine zI ?_ ?_|refine zK hL ?_|((with_reducible apply xc);refine zG (xv _ _ _) ?_)|((with_reducible apply xj);refine xg (xv _ _ _) ?_)|((with_reducible apply xc);refine zG (xy s hs 0 _) ?_)|((with_reducible apply xj);refine xg (xy s hs 0 _) ?_)|exact zF0|refine zD fun hb=>?_|exact zC|refine zT ?_|fail))
   all_goals (first|rfl|exact sB (by simp [hb0])|trace_state)
 .by_cases h1:a=1
  .subst h1
   cases hb0:(b==0)
   all_goals
    refine FI PM Tryz.func69 Tryz.ntmps69 [(21,12,[],[],(lin [] [0,1,2,3,4,5,6,7,8,9,10,11]))] rfl rfl ?_
    (have hWf:=w4 @MCode.enc_eq @MIns.enc_eq @lit0 @hb0;repeat' (first|refine zS ?_|refine zI ?_ ?_|refine zK hL ?_|((with_reducible apply xc);refine zG (xv _ _ _) ?_)|((with_reducible apply xj);refine xg (xv _ _ _) ?_)|((with_reducible apply xc);refine zG (xy s hs 1 _) ?_)|((with_reducible apply xj);refine xg (xy s hs 1 _) ?_)|exact zF0|refine zD fun hb=>?_|exact zC|refine zT ?_|fail))
    all_goals (first|rfl|exact sB (by simp [hb0])|trace_state)
  .have hw:(decide (0<=a)&&decide (a<=1))=false:=by
    rw [Bool.and_eq_false_iff,decide_eq_false_iff_not,decide_eq_false_iff_not];omega
   rw [hw];refine FI (PMr [15]) Tryz.func69 Tryz.ntmps69 [(21,12,[],[],(lin [] [0,1,2,3,4,5,6,7,8,9,10,11]))] rfl rfl ?_
   (have hWf:=w4 @MCode.enc_eq @MIns.enc_eq @lit0 @hw;repeat' (first|refine zS ?_|refine zI ?_ ?_|refine zK hL ?_|((with_reducible apply xc);refine zG (xv _ _ _) ?_)|((with_reducible apply xj);refine xg (xv _ _ _) ?_)|exact zF0|refine zD fun hb=>?_|exact zC|refine zT ?_|fail))
   all_goals (first|rfl|exact ⟨_,rfl⟩|exact sB (by simp)|trace_state)
theorem Vs(c:MCode)(a b:Int)(s:ByteArray)(hn:c.ins.length<=1048576)(hm:c.pats.length<=1048576)(hs:s.size<=maxLen):FT 69 [.ag c.enc,.ag (MIns.mk 7 a b s).enc] (fun r _=>r=.s (.bool (insM c.ins.length c.pats.length ⟨7,a,b,s⟩))):=by
 have hL:FT 61 [.s (.int .i64 7)] (fun r _=>r=.s (.bool false)):=by
  have h:=zf 7
  rwa [show xq 7=false by decide] at h
 have e:insM c.ins.length c.pats.length ⟨7,a,b,s⟩=((a==0)&&(b==0)&&yR s):=by unfold insM xq;simp
 rw [e];cases ha0:(a==0)
 all_goals
  cases hb0:(b==0)
  all_goals
   cases hg:yR s with
   | true=>
    obtain ⟨rows,hr,hG⟩:=ZI s hg;refine FI (PMr [19]) Tryz.func69 Tryz.ntmps69 [(21,12,[],[],(lin [] [0,1,2,3,4,5,6,7,8,9,10,11]))] rfl rfl ?_
    (have hWf:=w6 @MCode.enc_eq @MIns.enc_eq @lit0 @ha0 @hb0 @hr;repeat' (first|refine zS ?_|refine zI ?_ ?_|refine zK hL ?_|refine zK hG ?_|exact zF0|refine zD fun hb=>?_|exact zC|refine zT ?_|fail))
    all_goals (first|rfl|exact ⟨_,rfl⟩|exact sB (by simp)|trace_state)
   | false=>
    have hG:=ZH s hg;refine FI (PMr [19]) Tryz.func69 Tryz.ntmps69 [(21,12,[],[],(lin [] [0,1,2,3,4,5,6,7,8,9,10,11]))] rfl rfl ?_
    (have hWf:=w5 @MCode.enc_eq @MIns.enc_eq @lit0 @ha0 @hb0;repeat' (first|refine zS ?_|refine zI ?_ ?_|refine zK hL ?_|refine zK hG ?_|exact zF0|refine zD fun hb=>?_|exact zC|refine zT ?_|fail))
    all_goals (first|rfl|exact ⟨_,rfl⟩|exact sB (by simp)|trace_state)
theorem Vu(c:MCode)(a b:Int)(s:ByteArray)(hn:c.ins.length<=1048576)(hm:c.pats.length<=1048576)(hs:s.size<=maxLen):FT 69 [.ag c.enc,.ag (MIns.mk 16 a b s).enc] (fun r _=>r=.s (.bool (insM c.ins.length c.pats.length ⟨16,a,b,s⟩))):=by
 have hL:FT 61 [.s (.int .i64 16)] (fun r _=>r=.s (.bool false)):=by
  have h:=zf 16
  rwa [show xq 16=false by decide] at h
 have e:insM c.ins.length c.pats.length ⟨16,a,b,s⟩=((a==0)&&(b==0)&&uF s):=by unfold insM xq;simp
 rw [e];have hP:FT 150 [] (fun r _=>r=.sl 1 (y6.map stE)):=FCon.ice (yl.mono fun r o e=>by rw [e];simp only [frA,xd];rfl)
 cases ha0:(a==0)
 all_goals
  cases hb0:(b==0)
  all_goals
   refine FI (PMr [21]) Tryz.func69 Tryz.ntmps69 [(21,12,[],[],(lin [] [0,1,2,3,4,5,6,7,8,9,10,11]))] rfl rfl ?_
   (have hWf:=w5 @MCode.enc_eq @MIns.enc_eq @lit0 @ha0 @hb0;repeat' (first|refine zS ?_|refine zI ?_ ?_|refine zK hL ?_|refine zK hP ?_|refine zK (yP s) ?_|exact zF0|refine zD fun hb=>?_|exact zC|refine zT ?_|fail))
   all_goals (first|rfl|exact ⟨_,rfl⟩|exact sB (by simp)|trace_state)
theorem Vt(c:MCode)(op:Int)(hop:op<1\/25<op)(a b:Int)(s:ByteArray)(hn:c.ins.length<=1048576)(hm:c.pats.length<=1048576)(hs:s.size<=maxLen):FT 69 [.ag c.enc,.ag (MIns.mk op a b s).enc] (fun r _=>r=.s (.bool (insM c.ins.length c.pats.length ⟨op,a,b,s⟩))):=by
 have e1:(op==1)=false:=by simp only [beq_eq_false_iff_ne,ne_eq];omega
 have e2:(op==2)=false:=by simp only [beq_eq_false_iff_ne,ne_eq];omega
 have e3:(op==3)=false:=by simp only [beq_eq_false_iff_ne,ne_eq];omega
 have e4:(op==4)=false:=by simp only [beq_eq_false_iff_ne,ne_eq];omega
 have e5:(op==5)=false:=by simp only [beq_eq_false_iff_ne,ne_eq];omega
 have e6:(op==6)=false:=by simp only [beq_eq_false_iff_ne,ne_eq];omega
 have e7:(op==7)=false:=by simp only [beq_eq_false_iff_ne,ne_eq];omega
 have e8:(op==8)=false:=by simp only [beq_eq_false_iff_ne,ne_eq];omega
 have e9:(op==9)=false:=by simp only [beq_eq_false_iff_ne,ne_eq];omega
 have e10:(op==10)=false:=by simp only [beq_eq_false_iff_ne,ne_eq];omega
 have e11:(op==11)=false:=by simp only [beq_eq_false_iff_ne,ne_eq];omega
 have e12:(op==12)=false:=by simp only [beq_eq_false_iff_ne,ne_eq];omega
 have e13:(op==13)=false:=by simp only [beq_eq_false_iff_ne,ne_eq];omega
 have e14:(op==14)=false:=by simp only [beq_eq_false_iff_ne,ne_eq];omega
 have e15:(op==15)=false:=by simp only [beq_eq_false_iff_ne,ne_eq];omega
 have e16:(op==16)=false:=by simp only [beq_eq_false_iff_ne,ne_eq];omega
 have e17:(op==17)=false:=by simp only [beq_eq_false_iff_ne,ne_eq];omega
 have e18:(op==18)=false:=by simp only [beq_eq_false_iff_ne,ne_eq];omega
 have e19:(op==19)=false:=by simp only [beq_eq_false_iff_ne,ne_eq];omega
 have e20:(op==20)=false:=by simp only [beq_eq_false_iff_ne,ne_eq];omega
 have e21:(op==21)=false:=by simp only [beq_eq_false_iff_ne,ne_eq];omega
 have e22:(op==22)=false:=by simp only [beq_eq_false_iff_ne,ne_eq];omega
 have e23:(op==23)=false:=by simp only [beq_eq_false_iff_ne,ne_eq];omega
 have e24:(op==24)=false:=by simp only [beq_eq_false_iff_ne,ne_eq];omega
 have e25:(op==25)=false:=by simp only [beq_eq_false_iff_ne,ne_eq];omega
 have hL:FT 61 [.s (.int .i64 op)] (fun r _=>r=.s (.bool false)):=by
  have h:=zf op
  rwa [show xq op=false by unfold xq;simp [e8,e9,e12,e13,e18]] at h
 have hi:insM c.ins.length c.pats.length ⟨op,a,b,s⟩=false:=by
  unfold insM;rw [show xq op=false by unfold xq;simp [e8,e9,e12,e13,e18]]
  rw [if_neg (by simp),if_neg (by dsimp only;omega),if_neg (by dsimp only;omega),if_neg (by dsimp only;omega),if_neg (by dsimp only;omega),if_neg (by dsimp only;omega),if_neg (by dsimp only;omega),if_neg (by dsimp only;omega)]
  rcases hop with h|h
  .rw [decide_eq_false (by omega:¬ 1<=op)];rfl
  .rw [decide_eq_false (by omega:¬ op<=25)];simp
 have hw:(decide (1<=op)&&decide (op<=25))=false:=by
  rw [Bool.and_eq_false_iff,decide_eq_false_iff_not,decide_eq_false_iff_not];omega
 rw [hi];refine FI PM Tryz.func69 Tryz.ntmps69 [(21,12,[],[],(lin [] [0,1,2,3,4,5,6,7,8,9,10,11]))] rfl rfl ?_
 (have hWf:=w10 @MCode.enc_eq @MIns.enc_eq @lit0 @e1 @e2 @e3 @e4 @e5 @e6 (ai @e7<|ai @e8<|ai @e9<|ai @e10<|ai @e11<|ai @e12<|ai @e13<|ai @e14<|ai @e15<|ai @e16<|ai @e17<|ai @e18<|ai @e19<|ai @e20<|ai @e21<|ai @e22<|ai @e23<|ai @e24<|ai @e25<|@hw);repeat' (first|refine zS ?_|refine zI ?_ ?_|refine zK hL ?_|((with_reducible apply xc);refine zG (xv _ _ _) ?_)|((with_reducible apply xj);refine xg (xv _ _ _) ?_)|exact zF0|refine zD fun hb=>?_|exact zC|refine zT ?_|fail))
 all_goals (first|rfl|exact ⟨_,rfl⟩|exact sB (by simp)|trace_state)
theorem c_insOk(c:MCode)(x:MIns)(hx:x.ok)(hn:c.ins.length<=1048576)(hm:c.pats.length<=1048576):FT 69 [.ag c.enc,.ag x.enc] (fun r _=>r=.s (.bool (insM c.ins.length c.pats.length x))):=by
 obtain ⟨op,a,b,s⟩:=x;have hs:s.size<=maxLen:=hx.2.2.2
 by_cases h:op<1\/25<op
 .exact Vt c op h a b s hn hm hs
 .rcases (show op=1\/op=2\/op=3\/op=4\/op=5\/op=6\/op=7\/op=8\/op=9\/op=10\/op=11\/op=12\/op=13\/op=14\/op=15\/op=16\/op=17\/op=18\/op=19\/op=20\/op=21\/op=22\/op=23\/op=24\/op=25 by omega) with rfl|rfl|rfl|rfl|rfl|rfl|rfl|rfl|rfl|rfl|rfl|rfl|rfl|rfl|rfl|rfl|rfl|rfl|rfl|rfl|rfl|rfl|rfl|rfl|rfl
  .exact xae c 1 a b s (rfl) hn hm hs
  .exact xaf c 2 a b s (rfl) hn hm hs
  .exact vL c 3 a b s (.inl rfl) hn hm hs
  .exact Vr c a b s hn hm hs
  .exact vL c 5 a b s (.inr (.inl rfl)) hn hm hs
  .exact ZZ c 6 a b s (.inl rfl) hn hm hs
  .exact Vs c a b s hn hm hs
  .exact X7 c 8 a b s (.inl rfl) hn hm hs
  .exact X7 c 9 a b s (.inr (.inl rfl)) hn hm hs
  .exact vL c 10 a b s (.inr (.inr (.inl rfl))) hn hm hs
  .exact vL c 11 a b s (.inr (.inr (.inr (rfl)))) hn hm hs
  .exact X7 c 12 a b s (.inr (.inr (rfl))) hn hm hs
  .exact ZY c 13 a b s (.inl rfl) hn hm hs
  .exact X8 c 14 a b s (.inl rfl) hn hm hs
  .exact ZZ c 15 a b s (.inr (rfl)) hn hm hs
  .exact Vu c a b s hn hm hs
  .exact X8 c 17 a b s (.inr (.inl rfl)) hn hm hs
  .exact ZY c 18 a b s (.inr (rfl)) hn hm hs
  .exact X8 c 19 a b s (.inr (.inr (rfl))) hn hm hs
  .exact xad c 20 a b s (rfl) hn hm hs
  .exact X9 c 21 a b s (.inl rfl) hn hm hs
  .exact X9 c 22 a b s (.inr (.inl rfl)) hn hm hs
  .exact X9 c 23 a b s (.inr (.inr (rfl))) hn hm hs
  .exact Z0 c 24 a b s (.inl rfl) hn hm hs
  .exact Z0 c 25 a b s (.inr (rfl)) hn hm hs
theorem FCon.ofInt {f:FuncId} {fn:Func} {c:Code} (hf:Tryz.prog.funcs[f]?=some fn) (hname:(fn.name == "runtime.NumGoroutine")=false) (hb:fn.body=some c) (n:Int) (r:Value) (hr:r.oneCell'=true) (h:∀ w,Calls Tryz.prog f #[.int .i64 n] w fun e w'=>e=.returned r/\Below w.heap.size w w'):FT f [.s (.int .i64 n)] (fun q _=>q=.s r):=by
 refine FCon.ofBelow (Rv:=fun v=>v=r) hf hname hb ?_ rfl ?_
 .rintro _ rfl;exact ⟨hr,rfl⟩
 .intro w S up vs hl hv
  obtain ⟨v,rfl,h'⟩:=Xf (P:=fun _ d u=>RB S up w d u) hl hv
  have:=Rep.s_inv (show Rep S up w none (.s (.int .i64 n)) v from h');subst this;exact (h w).mono fun e w' h=>⟨_,h.1,rfl,h.2⟩
theorem W0(xs:List MPat)(f:FuncId)(caps:List D)(hm:PM.md f=[])(p:MPat->Bool)(hf:∀ x∈xs,FT f (.ag x.enc::caps) (fun r _=>r=.s (.bool (p x)))) :
  FT 105 [.sl 1 (xs.map MPat.enc),.fn f caps] (fun r _=>r=.s (.int .i64 (fidx p xs))):=by
 refine FI PM Tryz.func105 Tryz.ntmps105 [] rfl rfl ?_;refine YL 0 rfl trivial fun hlen=>?_
 simp only [List.length_map] at hlen
 (have hWf:=f0;repeat' (first|refine zS ?_|refine zI ?_ ?_|exact zF0|refine zD fun hb=>?_|exact zC|refine zT ?_|fail))
 refine xn (fun n σ=>∃ k:Nat,k<=xs.length/\n=xs.length - k/\σ.t 0=.sl 1 (xs.map MPat.enc)/\σ.t 1=.fn f caps/\σ.t 7=.s (.int .i64 xs.length)/\σ.t 8=.s (.int .i64 k)/\∀ x∈xs.take k,p x=false) xs.length ⟨0,by omega,by omega,?_⟩ ?_
 .simp only [go_sem,simprocAttr,Int.natCast_zero]
  all_goals simp
 .rintro n σ ⟨k,hk,rfl,h0,h1,h7,h8,hno⟩ K' hK
  by_cases hlt:k<xs.length
  .have hx:=xi MPat.enc xs k hlt
   have he:=MPat.enc_eq xs[k];have hc:=hf xs[k] (List.getElem_mem hlt);rw [he] at hc
   cases hp:p xs[k] with
   | true=>
    rw [hp] at hc
    (have hWf:=w7 @h0 @h1 @h7 @h8 @hx @he @hm;repeat' (first|refine zS ?_|refine zI ?_ ?_|refine zK hc ?_|exact zF0|refine zD fun hb=>?_|exact zC|refine zT ?_|fail))
    all_goals exact xN (XR p xs k hlt hno hp).symm
   | false=>
    rw [hp] at hc
    (have hWf:=w7 @h0 @h1 @h7 @h8 @hx @he @hm;repeat' (first|refine zS ?_|refine zI ?_ ?_|refine zK hc ?_|exact zF0|refine zD fun hb=>?_|exact zC|refine zT ?_|fail))
    refine hK (xs.length - (k+1)) _ (by omega) ⟨k+1,by omega,rfl,?_⟩
    simp only [go_sem,simprocAttr,h0,h1,h7,Int.natCast_succ];exact WG hlt hno hp
  .obtain rfl:k=xs.length:=by omega
   (have hWf:=w4 @h0 @h1 @h7 @h8;repeat' (first|refine zS ?_|refine zI ?_ ?_|exact zF0|refine zD fun hb=>?_|exact zC|refine zT ?_|fail))
   exact xN (XS p xs (by simpa using hno)).symm
theorem Zv(xs:List MPat)(f:FuncId)(caps:List D)(hm:PM.md f=[])(p:MPat->Bool)(hf:∀ x∈xs,FT f (.ag x.enc::caps) (fun r _=>r=.s (.bool (p x)))) :
  FT 44 [.sl 1 (xs.map MPat.enc),.fn f caps] (fun r _=>r=.s (.bool (xs.any p))):=by
 refine FI PM Tryz.func44 Tryz.ntmps44 [] rfl rfl ?_
 (have hWf:=f0;repeat' (first|refine zS ?_|refine zI ?_ ?_|refine zK (W0 xs f caps hm p hf) ?_|exact zF0|refine zD fun hb=>?_|exact zC|refine zT ?_|fail))
 exact sB (vZ p xs)
theorem UK(xs:List MIns)(f:FuncId)(caps:List D)(hm:PM.md f=[])(p:MIns->Bool)(hf:∀ x∈xs,FT f (.ag x.enc::caps) (fun r _=>r=.s (.bool (p x)))) :
  FT 147 [.sl 4 (xs.map MIns.enc),.fn f caps] (fun r _=>r=.s (.int .i64 (fidx p xs))):=by
 refine FI PM Tryz.func147 Tryz.ntmps147 [] rfl rfl ?_;refine YL 0 rfl trivial fun hlen=>?_
 simp only [List.length_map] at hlen
 (have hWf:=f0;repeat' (first|refine zS ?_|refine zI ?_ ?_|exact zF0|refine zD fun hb=>?_|exact zC|refine zT ?_|fail))
 refine xn (fun n σ=>∃ k:Nat,k<=xs.length/\n=xs.length - k/\σ.t 0=.sl 4 (xs.map MIns.enc)/\σ.t 1=.fn f caps/\σ.t 7=.s (.int .i64 xs.length)/\σ.t 8=.s (.int .i64 k)/\∀ x∈xs.take k,p x=false) xs.length ⟨0,by omega,by omega,?_⟩ ?_
 .simp only [go_sem,simprocAttr,Int.natCast_zero]
  all_goals simp
 .rintro n σ ⟨k,hk,rfl,h0,h1,h7,h8,hno⟩ K' hK
  by_cases hlt:k<xs.length
  .have hx:=xi MIns.enc xs k hlt
   have he:=MIns.enc_eq xs[k];have hc:=hf xs[k] (List.getElem_mem hlt);rw [he] at hc
   cases hp:p xs[k] with
   | true=>
    rw [hp] at hc
    (have hWf:=w7 @h0 @h1 @h7 @h8 @hx @he @hm;repeat' (first|refine zS ?_|refine zI ?_ ?_|refine zK hc ?_|exact zF0|refine zD fun hb=>?_|exact zC|refine zT ?_|fail))
    all_goals exact xN (XR p xs k hlt hno hp).symm
   | false=>
    rw [hp] at hc
    (have hWf:=w7 @h0 @h1 @h7 @h8 @hx @he @hm;repeat' (first|refine zS ?_|refine zI ?_ ?_|refine zK hc ?_|exact zF0|refine zD fun hb=>?_|exact zC|refine zT ?_|fail))
    refine hK (xs.length - (k+1)) _ (by omega) ⟨k+1,by omega,rfl,?_⟩
    simp only [go_sem,simprocAttr,h0,h1,h7,Int.natCast_succ];exact WG hlt hno hp
  .obtain rfl:k=xs.length:=by omega
   (have hWf:=w4 @h0 @h1 @h7 @h8;repeat' (first|refine zS ?_|refine zI ?_ ?_|exact zF0|refine zD fun hb=>?_|exact zC|refine zT ?_|fail))
   exact xN (XS p xs (by simpa using hno)).symm
theorem ZE(xs:List MIns)(f:FuncId)(caps:List D)(hm:PM.md f=[])(p:MIns->Bool)(hf:∀ x∈xs,FT f (.ag x.enc::caps) (fun r _=>r=.s (.bool (p x)))) :
  FT 67 [.sl 4 (xs.map MIns.enc),.fn f caps] (fun r _=>r=.s (.bool (xs.any p))):=by
 refine FI PM Tryz.func67 Tryz.ntmps67 [] rfl rfl ?_
 (have hWf:=f0;repeat' (first|refine zS ?_|refine zI ?_ ?_|refine zK (UK xs f caps hm p hf) ?_|exact zF0|refine zD fun hb=>?_|exact zC|refine zT ?_|fail))
 exact sB (vZ p xs)
theorem c_codeOk1(q:MPat)(ho:q.ok)(hs:q.sm):FT 66 [.ag q.enc] (fun r _=>r=.s (.bool (!patM q.nodes))):=by
 refine FI PM Tryz.func66 Tryz.ntmps66 [] rfl rfl ?_
 (have hWf:=w1 @MPat.enc_eq;repeat' (first|refine zS ?_|refine zI ?_ ?_|refine zK (WN q.nodes ho hs) ?_|exact zF0|refine zD fun hb=>?_|exact zC|refine zT ?_|fail))
theorem c_codeOk2(c:MCode)(x:MIns)(hx:x.ok)(hn:c.ins.length<=1048576)(hm:c.pats.length<=1048576):FT 68 [.ag x.enc,.pt c.enc] (fun r _=>r=.s (.bool (!insM c.ins.length c.pats.length x))):=by
 have h:=c_insOk c x hx hn hm;rw [MCode.enc_eq,MIns.enc_eq] at h
 refine FI PM Tryz.func68 Tryz.ntmps68 [] rfl rfl ?_
 (have hWf:=w2 @MCode.enc_eq @MIns.enc_eq;repeat' (first|refine zS ?_|refine zI ?_ ?_|refine zK h ?_|exact zF0|refine zD fun hb=>?_|exact zC|refine zT ?_|fail))
theorem codeM_len{c:MCode}(h:(c.ins.length:Int)<1\/3000<(c.ins.length:Int)):wF c=false:=by
 unfold wF;rcases h with h|h
 .rw [decide_eq_false (by omega:¬ 1<=c.ins.length)];rfl
 .rw [decide_eq_false (by omega:¬ c.ins.length<=3000)];simp
theorem codeM_pat{c:MCode}(h:(c.pats.all fun q=>patM q.nodes)=false):wF c=false:=by unfold wF;rw [h];simp
theorem codeM_ok{c:MCode}(h1:1<=(c.ins.length:Int))(h2:(c.ins.length:Int)<=3000)(h:(c.pats.all fun q=>patM q.nodes)=true):wF c=c.ins.all (insM c.ins.length c.pats.length):=by
 unfold wF;rw [h,decide_eq_true (by omega:1<=c.ins.length),decide_eq_true (by omega:c.ins.length<=3000)];rfl
theorem ZJ(c:MCode)(ho:c.ok)(hs:c.sm):FT 21 [.ag c.enc] (fun r _=>r=.s (.bool (wF c))):=by
 obtain ⟨o1,o2⟩:=ho;obtain ⟨s1,s2⟩:=hs;have hn:=s1.1;have hm:=s2.1;have hP:=Zv c.pats 66 [] rfl (fun q=>!patM q.nodes) (fun q hq=>c_codeOk1 q (o2 q hq) (s2.2 q hq))
 have hI:=ZE c.ins 68 [.pt c.enc] rfl (fun x=>!insM c.ins.length c.pats.length x) (fun x hx=>c_codeOk2 c x (o1 x hx) hn hm)
 rw [MCode.enc_eq] at hI
 have hna:(c.pats.all fun q=>patM q.nodes)=!c.pats.any fun q=>!patM q.nodes:=by rw [List.not_any_eq_all_not];simp
 have hnb:c.ins.all (insM c.ins.length c.pats.length)=!c.ins.any fun x=>!insM c.ins.length c.pats.length x:=by rw [List.not_any_eq_all_not];simp
 refine FI PM Tryz.func21 Tryz.ntmps21 [] rfl rfl ?_
 (refine xE ?_;simp only [go_sem,simprocAttr,MCode.enc_eq];(have hWf:=w1 @MCode.enc_eq;repeat' (first|refine zY ?_|refine zI ?_ ?_|exact zF1|refine zD fun hb=>?_|exact zC|refine zT ?_|fail)))
 refine z8 1 (.box [.sl 4 (c.ins.map MIns.enc),.sl 1 (c.pats.map MPat.enc)]) (by simp only [go_sem,simprocAttr,MCode.enc_eq]) rfl ?_
 cases hq:(c.pats.any fun q=>!patM q.nodes) with
 | true=>
  rw [hq] at hP hna
  rw [codeM_pat hna]
  (have hWf:=w1 @MCode.enc_eq;repeat' (first|refine zS ?_|refine zI ?_ ?_|refine zK (xv c.ins.length 1 3000) ?_|refine zK hP ?_|exact zF0|refine zD fun hb=>?_|exact zC|refine zT ?_|fail))
 | false=>
  rw [hq] at hP hna
  by_cases hl:1<=(c.ins.length:Int)/\(c.ins.length:Int)<=3000
  .rw [codeM_ok hl.1 hl.2 hna,hnb]
   (have hWf:=w1 @MCode.enc_eq;repeat' (first|refine zS ?_|refine zI ?_ ?_|refine zK (xv c.ins.length 1 3000) ?_|refine zK hP ?_|refine zK hI ?_|exact zF0|refine zD fun hb=>?_|exact zC|refine zT ?_|fail))
  .rw [codeM_len (by omega)]
   have hw:(decide (1<=(c.ins.length:Int))&&decide ((c.ins.length:Int)<=3000))=false:=by
    rw [Bool.and_eq_false_iff,decide_eq_false_iff_not,decide_eq_false_iff_not];omega
   (have hWf:=w2 @MCode.enc_eq @hw;repeat' (first|refine zS ?_|refine zI ?_ ?_|refine zK (xv c.ins.length 1 3000) ?_|refine zK hP ?_|exact zF0|refine zD fun hb=>?_|exact zC|refine zT ?_|fail))
theorem c_digits(n:Int)(h0:0<=n)(h1:n<=9223372036854775807):FT 59 [.s (.int .i64 n)] (fun r _=>r=.s (.string (bs (decL n.toNat)))):=FCon.ofInt Tryz.func59 rfl rfl n _ rfl fun w=>YF w n h0 h1
theorem Zu(n:Int)(h:I64 n):FT 63 [.s (.int .i64 n)] (fun r _=>r=.s (.string (bs (numT n)))):=FCon.ofInt Tryz.func63 rfl rfl n _ rfl fun w=>xac w n h.1 h.2
theorem FCon.ofStrV {f:FuncId} {fn:Func} {c:Code} (hf:Tryz.prog.funcs[f]?=some fn) (hname:(fn.name == "runtime.NumGoroutine")=false) (hb:fn.body=some c) (s:ByteArray) (r:Value) (hr:r.oneCell'=true) (h:∀ w,Calls Tryz.prog f #[.string s] w fun e w'=>e=.returned r/\Below w.heap.size w w'):FT f [.s (.string s)] (fun q _=>q=.s r):=by
 refine FCon.ofBelow (Rv:=fun v=>v=r) hf hname hb ?_ rfl ?_
 .rintro _ rfl;exact ⟨hr,rfl⟩
 .intro w S up vs hl hv
  obtain ⟨v,rfl,h'⟩:=Xf (P:=fun _ d u=>RB S up w d u) hl hv
  have:=Rep.s_inv (show Rep S up w none (.s (.string s)) v from h');subst this;exact (h w).mono fun e w' h=>⟨_,h.1,rfl,h.2⟩
theorem xaX(s:ByteArray)(hs:s.size<=10000000000):FT 64 [.s (.string s)] (fun r _=>r=.s (.string (bs (quoL s.data.toList)))):=FCon.ofStrV Tryz.func64 rfl rfl s _ rfl fun w=>xbR w s hs
def YQ:List ByteArray:=[⟨#[]⟩,⟨#[105,110,116]⟩,⟨#[115,116,114]⟩,⟨#[117,110,105,116]⟩,⟨#[99,111,110]⟩,⟨#[112,97,105,114]⟩,⟨#[118,97,114]⟩,⟨#[103,105,118,101,110]⟩,⟨#[102,117,110]⟩,⟨#[114,101,99]⟩,⟨#[99,97,108,108]⟩,⟨#[114,101,116]⟩,⟨#[106,117,109,112]⟩,⟨#[105,102,110,111,116]⟩,⟨#[98,105,110,100]⟩,⟨#[100,114,111,112]⟩,⟨#[112,114,105,109]⟩,⟨#[114,97,105,115,101]⟩,⟨#[116,114,121]⟩,⟨#[111,107]⟩,⟨#[97,114,109]⟩,⟨#[110,111,97,114,109]⟩,⟨#[114,101,102]⟩,⟨#[103,101,116]⟩,⟨#[115,101,116]⟩,⟨#[112,111,112]⟩]
def opN(op:Int):ByteArray:=YQ.getD op.toNat ⟨#[]⟩
theorem opN_len(op:Int):(opN op).size<=10:=by
 unfold opN;rw [List.getD_eq_getElem?_getD];cases h:YQ[op.toNat]? with
 | none=>decide
 | some s=>
  have hm:=List.mem_of_getElem? h;have:∀ s∈YQ,s.size<=10:=by decide
  exact this s hm
theorem c_opName(op:Int)(h0:1<=op)(h1:op<=25):FT 60 [.s (.int .i64 op)] (fun r _=>r=.s (.string (opN op))):=by
 rcases (show op=1\/op=2\/op=3\/op=4\/op=5\/op=6\/op=7\/op=8\/op=9\/op=10\/op=11\/op=12\/op=13\/op=14\/op=15\/op=16\/op=17\/op=18\/op=19\/op=20\/op=21\/op=22\/op=23\/op=24\/op=25 by omega) with rfl|rfl|rfl|rfl|rfl|rfl|rfl|rfl|rfl|rfl|rfl|rfl|rfl|rfl|rfl|rfl|rfl|rfl|rfl|rfl|rfl|rfl|rfl|rfl|rfl
 all_goals
  refine FI PM Tryz.func60 Tryz.ntmps60 [] rfl rfl ?_
  (have hWf:=f0;repeat' (first|refine zS ?_|refine zI ?_ ?_|exact zF0|refine zD fun hb=>?_|exact zC|refine zT ?_|fail))
  all_goals (first|rfl|trace_state)
end
section
theorem uL(l:List UInt8):(bs l).data.toList=l:=rfl
theorem bA(a:List UInt8)(b:ByteArray):bs a++b=bs (a++b.data.toList):=by
 apply ByteArray.ext;apply Array.ext'
 simp [bs]
def aB(op:Int):Bool:=xq op||op==1||op==4||op==6||op==15||op==20
def yH(k:Nat)(x:MIns):List UInt8:=numT k++(32::((opN x.op).data.toList++((if aB x.op then 32::numT x.a else [])++((if x.op==20 then 32::numT x.b else [])++((if x.op==2 then 32::quoL x.s.data.toList else if x.s.toList.isEmpty then [] else 32::x.s.data.toList)++[10])))))
def vQ(xs:List MIns):Nat->List UInt8
 | 0=>[]
 | k+1=>vQ xs k++(match xs[k]? with|some x=>yH k x|none=>[])
theorem Zm{xs:List MIns}{k:Nat}(h:k<xs.length):vQ xs (k+1)=vQ xs k++yH k xs[k]:=by rw [vQ,List.getElem?_eq_getElem h]
theorem lineL_len(k:Nat)(x:MIns)(h:x.s.size<=1048576):(yH k x).length<=4200000:=by
 have h1:=uv (k:Int);have h2:=uv x.a;have h3:=uv x.b;have h4:(opN x.op).data.toList.length<=10:=opN_len x.op;have h5:x.s.data.toList.length<=1048576:=h;have h6:=xaA x.s.data.toList;unfold yH;simp only [List.length_append,List.length_cons,List.length_nil];have a1:(if aB x.op then 32::numT x.a else []).length<=21:=by split<;>simp<;>omega
 have a2:(if x.op==20 then 32::numT x.b else []).length<=21:=by split<;>simp<;>omega
 have a3:(if x.op==2 then 32::quoL x.s.data.toList else if x.s.toList.isEmpty then [] else 32::x.s.data.toList).length<=4194400:=by
  split
  .simp;omega
  .split
   .simp
   .simp;omega
 omega
theorem Yz{xs:List MIns}(h:∀ x∈xs,x.s.size<=1048576):∀ k,k<=xs.length->(vQ xs k).length<=k*4200000
 | 0,_=>by simp [vQ]
 | k+1,hk=>by
  have ih:=Yz h k (by omega)
  have:=lineL_len k xs[k] (h _ (List.getElem_mem (by omega)))
  rw [Zm (by omega),List.length_append,Nat.add_mul];omega
def uz(c:MCode):List UInt8:=if wF c=true then vQ c.ins c.ins.length else []
theorem Yr{c:MCode}(h:wF c=true):1<=c.ins.length/\c.ins.length<=3000/\∀ x∈c.ins,insM c.ins.length c.pats.length x=true:=by
 unfold wF at h
 simp only [Bool.and_eq_true,decide_eq_true_eq,List.all_eq_true] at h
 exact ⟨h.1.1.1,h.1.1.2,h.2⟩
theorem Vv{n m:Int}{x:MIns}(h:insM n m x=true):1<=x.op/\x.op<=25:=by
 unfold insM xq at h
 split at h
 .rename_i q;simp at q;omega
 split at h
 .omega
 split at h
 .omega
 split at h
 .omega
 split at h
 .omega
 split at h
 .omega
 split at h
 .omega
 split at h
 .omega
 .simp only [Bool.and_eq_true,decide_eq_true_eq] at h;omega
theorem nil_conM:conM ([]:List UInt8)=false:=by decide
theorem insM_s{n m:Int}{x:MIns}(h:insM n m x=true)(h2:x.op≠2):x.s.toList.isEmpty=!(x.op==4||x.op==7||x.op==16):=by
 obtain ⟨op,a,b,s⟩:=x;have hb:=Vv h;dsimp only at hb h2 ⊢
 have hd:s.data.toList=s.toList:=by rw [ByteArray.toList_eq]
 by_cases h4:op=4
 .subst h4
  unfold insM xq at h
  simp at h
  cases hs:s.toList with
  | nil=>
   have:=h.2;unfold yv at this
   rw [hd,hs,nil_conM] at this
   simp at this
  | cons _ _=>rfl
 .by_cases h7:op=7
  .subst h7
   unfold insM xq at h
   simp at h
   cases hs:s.toList with
   | nil=>
    have:=h.2;unfold yR at this
    rw [hs] at this
    simp at this
   | cons _ _=>rfl
  .by_cases h16:op=16
   .subst h16
    unfold insM xq at h
    simp at h
    cases hs:s.toList with
    | nil=>
     have:=h.2;unfold uF primL at this
     rw [hs] at this
     simp at this
    | cons _ _=>rfl
   .have e4:(op==4)=false:=by simpa using h4
    have e7:(op==7)=false:=by simpa using h7
    have e16:(op==16)=false:=by simpa using h16
    rw [e4,e7,e16];unfold insM at h
    split at h
    .simp only [Bool.and_eq_true] at h;exact h.2
    split at h
    .simp only [Bool.and_eq_true] at h;exact h.2
    split at h
    .simp only [Bool.and_eq_true] at h;exact h.2
    split at h
    .simp only [Bool.and_eq_true] at h;exact h.2
    try rw [if_neg h4,if_neg h2,if_neg h7,if_neg h16] at h
    simp only [Bool.and_eq_true] at h
    rw [h.2];rfl
end
section
open Go.RowKit
theorem xaV(xs:List Int)(v:Int):FT 145 [yT xs,.s (.int .i64 v)] (fun r _=>r=.s (.int .i64 (fidx (fun x=>v==x) xs))):=by
 refine FI PM Tryz.func145 Tryz.ntmps145 [] rfl rfl ?_;refine YL 0 rfl trivial fun hlen=>?_
 simp only [List.length_map] at hlen
 (have hWf:=f0;repeat' (first|refine zS ?_|refine zI ?_ ?_|exact zF0|refine zD fun hb=>?_|exact zC|refine zT ?_|fail))
 refine xn (fun n σ=>∃ k:Nat,k<=xs.length/\n=xs.length - k/\σ.t 0=yT xs/\σ.t 1=.s (.int .i64 v)/\σ.t 7=.s (.int .i64 xs.length)/\σ.t 8=.s (.int .i64 k)/\∀ x∈xs.take k,(v==x)=false) xs.length ⟨0,by omega,by omega,?_⟩ ?_
 .simp only [go_sem,simprocAttr,Int.natCast_zero]
  all_goals simp
 .rintro n σ ⟨k,hk,rfl,h0,h1,h7,h8,hno⟩ K' hK
  by_cases hlt:k<xs.length
  .have hx:=xi iE xs k hlt
   have he:=x5 xs[k]
   by_cases hp:v=xs[k]
   .have hp':(v==xs[k])=true:=by simpa using hp
    (have hWf:=w7 @h0 @h1 @h7 @h8 @hx @he @hp';repeat' (first|refine zS ?_|refine zI ?_ ?_|exact zF0|refine zD fun hb=>?_|exact zC|refine zT ?_|fail))
    exact xN (by rw [XR (fun x=>v==x) xs k hlt hno hp'])
   .have hp':(v==xs[k])=false:=by simpa using hp
    (have hWf:=w7 @h0 @h1 @h7 @h8 @hx @he @hp';repeat' (first|refine zS ?_|refine zI ?_ ?_|exact zF0|refine zD fun hb=>?_|exact zC|refine zT ?_|fail))
    refine hK (xs.length - (k+1)) _ (by omega) ⟨k+1,by omega,rfl,?_⟩
    simp only [go_sem,simprocAttr,h0,h1,h7,Int.natCast_succ];intro x hx;rw [List.take_succ_eq_append_getElem hlt] at hx
    rcases List.mem_append.1 hx with hx|hx
    .exact hno x hx
    .simp at hx;rw [hx];exact hp'
  .obtain rfl:k=xs.length:=by omega
   (have hWf:=w4 @h0 @h1 @h7 @h8;repeat' (first|refine zS ?_|refine zI ?_ ?_|exact zF0|refine zD fun hb=>?_|exact zC|refine zT ?_|fail))
   exact xN (by rw [XS (fun x=>v==x) xs (by simpa using hno)])
theorem idx_mem(xs:List Int)(v:Int):decide (fidx (fun x=>v==x) xs ≥ 0)=decide (v∈xs):=by
 rw [vZ,Bool.eq_iff_iff,List.any_eq_true]
 simp
theorem Vk(xs:List Int)(v:Int):FT 62 [yT xs,.s (.int .i64 v)] (fun r _=>r=.s (.bool (decide (v∈xs)))):=by
 refine FI PM Tryz.func62 Tryz.ntmps62 [] rfl rfl ?_
 (have hWf:=f0;repeat' (first|refine zS ?_|refine zI ?_ ?_|refine zK (xaV xs v) ?_|exact zF0|refine zD fun hb=>?_|exact zC|refine zT ?_|fail))
 exact sB (idx_mem xs v)
theorem numT_nat{k:Nat}(h:k<=3000):numT (k:Int)=decL k:=by rw [Ut (by omega) (by omega)];simp
theorem uQ:(⟨#[32]⟩:ByteArray).data.toList=[32]:=rfl
theorem uO:(⟨#[10]⟩:ByteArray).data.toList=[10]:=rfl
theorem uh(l m:List UInt8)(B:ByteArray)(N:Nat)(hN:N=B.size)(hm:m=B.data.toList++[10]):D.bs 10 1 (l.length+N+1)=D.bs 10 1 (l++m).length/\Ob.arr 5 1 (l.map u8R++strR B++[[D.s (.int .u8 10)]])=Ob.arr 5 1 ((l++m).map u8R):=by
 subst hN hm;have h:B.data.toList.length=B.size:=rfl;have h2:(strR B).length=B.size:=zl B
 constructor
 .congr 1
  simp only [List.length_append,List.length_cons,List.length_nil,h];omega
 .rw [List.map_append,List.map_append,List.append_assoc]
  rfl
theorem Vl(c:MCode)(ho:c.ok)(hs:c.sm):FT 20 [.ag c.enc] (fun r _=>r=.s (.string (bs (uz c)))):=by
 have hc:=ZJ c ho hs;rw [MCode.enc_eq] at hc
 cases hM:wF c with
 | false=>
  rw [hM] at hc
  have he:uz c=[]:=by unfold uz;rw [hM];rfl
  rw [he];refine FI PM Tryz.func20 Tryz.ntmps20 [(7,6,[],[],(lin [] [0,1,2,3,4,5]))] rfl rfl ?_
  (have hWf:=w1 @MCode.enc_eq;repeat' (first|refine zS ?_|refine zI ?_ ?_|refine zK hc ?_|exact zF0|refine zD fun hb=>?_|exact zC|refine zT ?_|fail))
  all_goals rfl
 | true=>
  rw [hM] at hc
  have he:uz c=vQ c.ins c.ins.length:=by unfold uz;rw [hM];rfl
  rw [he];obtain ⟨hn1,hn2,hins⟩:=Yr hM;obtain ⟨o1,o2⟩:=ho;obtain ⟨s1,s2⟩:=hs;refine FI PM Tryz.func20 Tryz.ntmps20 [(7,6,[],[],(lin [] [0,1,2,3,4,5]))] rfl rfl ?_
  (have hWf:=w1 @MCode.enc_eq;repeat' (first|refine zS ?_|refine zI ?_ ?_|refine zK hc ?_|exact zF0|refine zD fun hb=>?_|exact zC|refine zT ?_|fail))
  refine xn (fun n σ=>∃ k:Nat,k<=c.ins.length/\n=c.ins.length - k/\σ.t 3=.bs 10 1 (vQ c.ins k).length/\σ.b 10=some (.arr 5 1 ((vQ c.ins k).map u8R))/\σ.t 12=.sl 4 (c.ins.map MIns.enc)/\σ.t 13=.s (.int .i64 c.ins.length)/\σ.t 14=.s (.int .i64 k)) c.ins.length ⟨0,by omega,by omega,?_⟩ ?_
  .simp only [go_sem,simprocAttr,Int.natCast_zero]
   exact ⟨rfl,rfl⟩
  .rintro n σ ⟨k,hk,rfl,h3,hb10,h12,h13,h14⟩ K' hK
   by_cases hlt:k<c.ins.length
   .have hx:=xi MIns.enc c.ins k hlt
    have hI:=hins c.ins[k] (List.getElem_mem hlt);have hok:=o1 c.ins[k] (List.getElem_mem hlt);have hsm:=s1.2 c.ins[k] (List.getElem_mem hlt);have hT:=Zm hlt;have hL:=Yz s1.2 k hk;have hL2:k*4200000<=12600000000:=by omega
    generalize c.ins[k]=x at hx hI hok hsm hT
    obtain ⟨op,a,b,s⟩:=x;obtain ⟨-,hIa,hIb,-⟩:=hok;have hb:=Vv hI;dsimp only [MIns.sm] at hIa hIb hb hsm
    have hN:=c_opName op hb.1 hb.2;have hLd:=zf op;have hCt:=Vk [1,4,6,15,20] op;have hA:=Zu a hIa;have hB:=Zu b hIb;have hK0:=c_digits (k:Int) (by omega) (by omega)
    have hkT:decL (k:Int).toNat=numT (k:Int):=by rw [numT_nat (by omega)];simp
    rw [hkT] at hK0
    have hQ:=xaX s (by omega)
    have hss:=fun h2=>insM_s hI h2
    dsimp only at hss
    have hnl:=opN_len op;have hl1:=uv (k:Int);have hl2:=uv a;have hl3:=uv b;have hl4:=xaA s.data.toList;have hl5:s.data.toList.length=s.size:=rfl;have z32:(#[32]:Array UInt8).size=1:=rfl;have z10:(#[10]:Array UInt8).size=1:=rfl;rcases (show op=2\/op=20\/op=4\/op=7\/op=16\/op=1\/op=6\/op=15\/(op≠2/\op≠20/\op≠4/\op≠7/\op≠16/\xq op=true)\/(op≠2/\op≠20/\op≠4/\op≠7/\op≠16/\aB op=false) by unfold aB xq;simp;omega) with rfl|rfl|rfl|rfl|rfl|rfl|rfl|rfl|⟨q2,q20,q4,q7,q16,ql⟩|⟨q2,q20,q4,q7,q16,qa⟩
    .have hln:yH k ⟨2,a,b,s⟩=numT k++(32::((opN 2).data.toList++(32::quoL s.data.toList++[10]))):=rfl
     rw [show xq 2=false from rfl] at hLd
     rw [show decide ((2:Int)∈[1,4,6,15,20])=false from rfl] at hCt
     (have hWf:=w10 @h3 @hb10 @h12 @h13 @h14 @hx @MIns.enc_eq @ze @zl (ai @ByteArray.size_append<|ai @z32<|@z10);repeat' (first|refine zS ?_|refine zI ?_ ?_|refine zK hK0 ?_|refine zK hN ?_|refine zK hLd ?_|refine zK hCt ?_|refine zK hA ?_|refine zK hB ?_|refine zK hQ ?_|exact zF0|refine zD fun hb=>?_|exact zC|refine zT ?_|fail))
     refine hK (c.ins.length - (k+1)) _ (by omega) ⟨k+1,by omega,rfl,?_⟩
     simp only [go_sem,simprocAttr,h3,h12,h13,Int.natCast_succ];rw [hT,hln];refine uh _ _ _ _ ?_ ?_
     .simp only [ByteArray.size_append];rfl
     .simp only [bA,uL,uQ,uO,List.append_assoc,List.cons_append,List.nil_append]
    .have he2:s.toList.isEmpty=true:=hss (by decide)
     have hln:yH k ⟨20,a,b,s⟩=numT k++(32::((opN 20).data.toList++(32::numT a++(32::numT b++[10])))):=by unfold yH;dsimp only;rw [he2];rfl
     rw [show xq 20=false from rfl] at hLd
     rw [show decide ((20:Int)∈[1,4,6,15,20])=true from rfl] at hCt
     (have hWf:=w10 @h3 @hb10 @h12 @h13 @h14 @hx @MIns.enc_eq @ze @zl (ai @ByteArray.size_append<|ai @z32<|@z10);repeat' (first|refine zS ?_|refine zI ?_ ?_|refine zK hK0 ?_|refine zK hN ?_|refine zK hLd ?_|refine zK hCt ?_|refine zK hA ?_|refine zK hB ?_|refine zK hQ ?_|exact zF0|refine zD fun hb=>?_|exact zC|refine zT ?_|fail))
     refine hK (c.ins.length - (k+1)) _ (by omega) ⟨k+1,by omega,rfl,?_⟩
     simp only [go_sem,simprocAttr,h3,h12,h13,Int.natCast_succ];rw [hT,hln];refine uh _ _ _ _ ?_ ?_
     .simp only [ByteArray.size_append];rfl
     .simp only [bA,uL,uQ,uO,List.append_assoc,List.cons_append,List.nil_append]
    .have he2:s.toList.isEmpty=false:=hss (by decide)
     have hln:yH k ⟨4,a,b,s⟩=numT k++(32::((opN 4).data.toList++(32::numT a++(32::s.data.toList++[10])))):=by unfold yH;dsimp only;rw [he2];rfl
     rw [show xq 4=false from rfl] at hLd
     rw [show decide ((4:Int)∈[1,4,6,15,20])=true from rfl] at hCt
     (have hWf:=w10 @h3 @hb10 @h12 @h13 @h14 @hx @MIns.enc_eq @ze @zl (ai @ByteArray.size_append<|ai @z32<|@z10);repeat' (first|refine zS ?_|refine zI ?_ ?_|refine zK hK0 ?_|refine zK hN ?_|refine zK hLd ?_|refine zK hCt ?_|refine zK hA ?_|refine zK hB ?_|refine zK hQ ?_|exact zF0|refine zD fun hb=>?_|exact zC|refine zT ?_|fail))
     refine hK (c.ins.length - (k+1)) _ (by omega) ⟨k+1,by omega,rfl,?_⟩
     simp only [go_sem,simprocAttr,h3,h12,h13,Int.natCast_succ];rw [hT,hln];refine uh _ _ _ _ ?_ ?_
     .simp only [ByteArray.size_append];rfl
     .simp only [bA,uL,uQ,uO,List.append_assoc,List.cons_append,List.nil_append]
    .have he2:s.toList.isEmpty=false:=hss (by decide)
     have hln:yH k ⟨7,a,b,s⟩=numT k++(32::((opN 7).data.toList++(32::s.data.toList++[10]))):=by unfold yH;dsimp only;rw [he2];rfl
     rw [show xq 7=false from rfl] at hLd
     rw [show decide ((7:Int)∈[1,4,6,15,20])=false from rfl] at hCt
     (have hWf:=w10 @h3 @hb10 @h12 @h13 @h14 @hx @MIns.enc_eq @ze @zl (ai @ByteArray.size_append<|ai @z32<|@z10);repeat' (first|refine zS ?_|refine zI ?_ ?_|refine zK hK0 ?_|refine zK hN ?_|refine zK hLd ?_|refine zK hCt ?_|refine zK hA ?_|refine zK hB ?_|refine zK hQ ?_|exact zF0|refine zD fun hb=>?_|exact zC|refine zT ?_|fail))
     refine hK (c.ins.length - (k+1)) _ (by omega) ⟨k+1,by omega,rfl,?_⟩
     simp only [go_sem,simprocAttr,h3,h12,h13,Int.natCast_succ];rw [hT,hln];refine uh _ _ _ _ ?_ ?_
     .simp only [ByteArray.size_append];rfl
     .simp only [bA,uL,uQ,uO,List.append_assoc,List.cons_append,List.nil_append]
    .have he2:s.toList.isEmpty=false:=hss (by decide)
     have hln:yH k ⟨16,a,b,s⟩=numT k++(32::((opN 16).data.toList++(32::s.data.toList++[10]))):=by unfold yH;dsimp only;rw [he2];rfl
     rw [show xq 16=false from rfl] at hLd
     rw [show decide ((16:Int)∈[1,4,6,15,20])=false from rfl] at hCt
     (have hWf:=w10 @h3 @hb10 @h12 @h13 @h14 @hx @MIns.enc_eq @ze @zl (ai @ByteArray.size_append<|ai @z32<|@z10);repeat' (first|refine zS ?_|refine zI ?_ ?_|refine zK hK0 ?_|refine zK hN ?_|refine zK hLd ?_|refine zK hCt ?_|refine zK hA ?_|refine zK hB ?_|refine zK hQ ?_|exact zF0|refine zD fun hb=>?_|exact zC|refine zT ?_|fail))
     refine hK (c.ins.length - (k+1)) _ (by omega) ⟨k+1,by omega,rfl,?_⟩
     simp only [go_sem,simprocAttr,h3,h12,h13,Int.natCast_succ];rw [hT,hln];refine uh _ _ _ _ ?_ ?_
     .simp only [ByteArray.size_append];rfl
     .simp only [bA,uL,uQ,uO,List.append_assoc,List.cons_append,List.nil_append]
    .have he2:s.toList.isEmpty=true:=hss (by decide)
     have hln:yH k ⟨1,a,b,s⟩=numT k++(32::((opN 1).data.toList++(32::numT a++[10]))):=by unfold yH;dsimp only;rw [he2];rfl
     rw [show xq 1=false from rfl] at hLd
     rw [show decide ((1:Int)∈[1,4,6,15,20])=true from rfl] at hCt
     (have hWf:=w10 @h3 @hb10 @h12 @h13 @h14 @hx @MIns.enc_eq @ze @zl (ai @ByteArray.size_append<|ai @z32<|@z10);repeat' (first|refine zS ?_|refine zI ?_ ?_|refine zK hK0 ?_|refine zK hN ?_|refine zK hLd ?_|refine zK hCt ?_|refine zK hA ?_|refine zK hB ?_|refine zK hQ ?_|exact zF0|refine zD fun hb=>?_|exact zC|refine zT ?_|fail))
     refine hK (c.ins.length - (k+1)) _ (by omega) ⟨k+1,by omega,rfl,?_⟩
     simp only [go_sem,simprocAttr,h3,h12,h13,Int.natCast_succ];rw [hT,hln];refine uh _ _ _ _ ?_ ?_
     .simp only [ByteArray.size_append];rfl
     .simp only [bA,uL,uQ,uO,List.append_assoc,List.cons_append,List.nil_append]
    .have he2:s.toList.isEmpty=true:=hss (by decide)
     have hln:yH k ⟨6,a,b,s⟩=numT k++(32::((opN 6).data.toList++(32::numT a++[10]))):=by unfold yH;dsimp only;rw [he2];rfl
     rw [show xq 6=false from rfl] at hLd
     rw [show decide ((6:Int)∈[1,4,6,15,20])=true from rfl] at hCt
     (have hWf:=w10 @h3 @hb10 @h12 @h13 @h14 @hx @MIns.enc_eq @ze @zl (ai @ByteArray.size_append<|ai @z32<|@z10);repeat' (first|refine zS ?_|refine zI ?_ ?_|refine zK hK0 ?_|refine zK hN ?_|refine zK hLd ?_|refine zK hCt ?_|refine zK hA ?_|refine zK hB ?_|refine zK hQ ?_|exact zF0|refine zD fun hb=>?_|exact zC|refine zT ?_|fail))
     refine hK (c.ins.length - (k+1)) _ (by omega) ⟨k+1,by omega,rfl,?_⟩
     simp only [go_sem,simprocAttr,h3,h12,h13,Int.natCast_succ];rw [hT,hln];refine uh _ _ _ _ ?_ ?_
     .simp only [ByteArray.size_append];rfl
     .simp only [bA,uL,uQ,uO,List.append_assoc,List.cons_append,List.nil_append]
    .have he2:s.toList.isEmpty=true:=hss (by decide)
     have hln:yH k ⟨15,a,b,s⟩=numT k++(32::((opN 15).data.toList++(32::numT a++[10]))):=by unfold yH;dsimp only;rw [he2];rfl
     rw [show xq 15=false from rfl] at hLd
     rw [show decide ((15:Int)∈[1,4,6,15,20])=true from rfl] at hCt
     (have hWf:=w10 @h3 @hb10 @h12 @h13 @h14 @hx @MIns.enc_eq @ze @zl (ai @ByteArray.size_append<|ai @z32<|@z10);repeat' (first|refine zS ?_|refine zI ?_ ?_|refine zK hK0 ?_|refine zK hN ?_|refine zK hLd ?_|refine zK hCt ?_|refine zK hA ?_|refine zK hB ?_|refine zK hQ ?_|exact zF0|refine zD fun hb=>?_|exact zC|refine zT ?_|fail))
     refine hK (c.ins.length - (k+1)) _ (by omega) ⟨k+1,by omega,rfl,?_⟩
     simp only [go_sem,simprocAttr,h3,h12,h13,Int.natCast_succ];rw [hT,hln];refine uh _ _ _ _ ?_ ?_
     .simp only [ByteArray.size_append];rfl
     .simp only [bA,uL,uQ,uO,List.append_assoc,List.cons_append,List.nil_append]
    .have e2:(op==2)=false:=by simpa using q2
     have e20:(op==20)=false:=by simpa using q20
     have e4:(op==4)=false:=by simpa using q4
     have e7:(op==7)=false:=by simpa using q7
     have e16:(op==16)=false:=by simpa using q16
     have he2:s.toList.isEmpty=true:=by rw [hss q2,e4,e7,e16];rfl
     have hln:yH k ⟨op,a,b,s⟩=numT k++(32::((opN op).data.toList++(32::numT a++[10]))):=by
      have qa:aB op=true:=by unfold aB;rw [ql];rfl
      unfold yH;dsimp only;rw [he2,qa,e2,e20];rfl
     rw [ql] at hLd
     (have hWf:=w10 @h3 @hb10 @h12 @h13 @h14 @hx @MIns.enc_eq @ze @zl (ai @ByteArray.size_append<|ai @z32<|ai @z10<|ai @e2<|ai @e4<|ai @e7<|ai @e16<|@e20);repeat' (first|refine zS ?_|refine zI ?_ ?_|refine zK hK0 ?_|refine zK hN ?_|refine zK hLd ?_|refine zK hCt ?_|refine zK hA ?_|refine zK hB ?_|refine zK hQ ?_|exact zF0|refine zD fun hb=>?_|exact zC|refine zT ?_|fail))
     refine hK (c.ins.length - (k+1)) _ (by omega) ⟨k+1,by omega,rfl,?_⟩
     simp only [go_sem,simprocAttr,h3,h12,h13,Int.natCast_succ];rw [hT,hln];refine uh _ _ _ _ ?_ ?_
     .simp only [ByteArray.size_append];rfl
     .simp only [bA,uL,uQ,uO,List.append_assoc,List.cons_append,List.nil_append]
    .have e2:(op==2)=false:=by simpa using q2
     have e20:(op==20)=false:=by simpa using q20
     have e4:(op==4)=false:=by simpa using q4
     have e7:(op==7)=false:=by simpa using q7
     have e16:(op==16)=false:=by simpa using q16
     have he2:s.toList.isEmpty=true:=by rw [hss q2,e4,e7,e16];rfl
     have hln:yH k ⟨op,a,b,s⟩=numT k++(32::((opN op).data.toList++[10])):=by unfold yH;dsimp only;rw [he2,qa,e2,e20];rfl
     unfold aB at qa
     simp only [Bool.or_eq_false_iff] at qa
     obtain ⟨⟨⟨⟨⟨ql,e1⟩,-⟩,e6⟩,e15⟩,-⟩:=qa;have hct:decide (op∈[1,4,6,15,20])=false:=by
      simp at e1 e6 e15
      simp [e1,e6,e15,q4,q20]
     rw [ql] at hLd
     rw [hct] at hCt
     (have hWf:=w10 @h3 @hb10 @h12 @h13 @h14 @hx @MIns.enc_eq @ze @zl (ai @ByteArray.size_append<|ai @z32<|ai @z10<|ai @e2<|ai @e4<|ai @e7<|ai @e16<|@e20);repeat' (first|refine zS ?_|refine zI ?_ ?_|refine zK hK0 ?_|refine zK hN ?_|refine zK hLd ?_|refine zK hCt ?_|refine zK hA ?_|refine zK hB ?_|refine zK hQ ?_|exact zF0|refine zD fun hb=>?_|exact zC|refine zT ?_|fail))
     refine hK (c.ins.length - (k+1)) _ (by omega) ⟨k+1,by omega,rfl,?_⟩
     simp only [go_sem,simprocAttr,h3,h12,h13,Int.natCast_succ];rw [hT,hln];refine uh _ _ _ _ ?_ ?_
     .simp only [ByteArray.size_append];rfl
     .simp only [bA,uL,uQ,uO,List.append_assoc,List.cons_append,List.nil_append]
   .obtain rfl:k=c.ins.length:=by omega
    have hL:=Yz s1.2 c.ins.length (by omega)
    have hL2:c.ins.length*4200000<=12600000000:=by omega
    (have hWf:=w6 @h3 @hb10 @h12 @h13 @h14 @Qr;repeat' (first|refine zS ?_|refine zI ?_ ?_|exact zF0|refine zD fun hb=>?_|exact zC|refine zT ?_|fail))
    .intro r hr
     obtain ⟨b,-,rfl⟩:=List.mem_map.1 hr;exact ⟨b,rfl⟩
    .rfl
end
section
open Arb
theorem ZP:eS.toList=[]:=by rw [ByteArray.toList_eq];rfl
def Ext(s s':CS):Prop:=(∃ l,s'.ins=s.ins++l)/\s.pats.length<=s'.pats.length
theorem Ext.refl(s:CS):Ext s s:=⟨⟨[],by simp⟩,Nat.le_refl _⟩
theorem Ext.trans{s s' s'':CS}(h:Ext s s')(h':Ext s' s''):Ext s s'':=by
 obtain ⟨⟨l,e⟩,p⟩:=h;obtain ⟨⟨l',e'⟩,p'⟩:=h';exact ⟨⟨l++l',by rw [e',e,List.append_assoc]⟩,Nat.le_trans p p'⟩
theorem Ext.emit(s:CS)(i:MIns):Ext s (s.emit i):=⟨⟨[i],rfl⟩,Nat.le_refl _⟩
theorem Ext.len{s s':CS}(h:Ext s s'):s.ins.length<=s'.ins.length:=by obtain ⟨⟨l,e⟩,-⟩:=h;rw [e,List.length_append];omega
theorem Ext.get{s s':CS}(h:Ext s s'){k:Nat}{i:MIns}(hk:s.ins[k]?=some i):s'.ins[k]?=some i:=by
 obtain ⟨⟨l,e⟩,-⟩:=h;have:=(List.getElem?_eq_some_iff.1 hk).1;rw [e,List.getElem?_append_left this];exact hk
theorem vY(s:CS)(i:MIns):(s.emit i).ins[s.ins.length]?=some i:=by simp [CS.emit]
theorem xaC{l:List MIns}{k:Nat}{x:MIns}(h:l[k]?=some x)(v:Int):setA l k v=l.set k ⟨x.op,v,x.b,x.s⟩:=by unfold setA;rw [h]
theorem setB_get{l:List MIns}{k:Nat}{x:MIns}(h:l[k]?=some x)(v:Int):setB l k v=l.set k ⟨x.op,x.a,v,x.s⟩:=by unfold setB;rw [h]
theorem set_ext{s s':CS}(h:Ext s s'){k:Nat}(hk:s.ins.length<=k)(x:MIns)(b:Bool):Ext s ⟨s'.ins.set k x,s'.pats,b⟩:=by
 obtain ⟨⟨l,e⟩,p⟩:=h;exact ⟨⟨l.set (k - s.ins.length) x,by show s'.ins.set k x=_;rw [e,List.set_append_right _ _ hk]⟩,p⟩
structure OkS(s:CS):Prop where
 ins:∀ i∈s.ins,insM ((s.ins.length:Int)+1) s.pats.length i=true
 pats:∀ q∈s.pats,patM q.nodes=true
def Okk(s:CS):Prop:=s.lost=false->OkS s
theorem Yu{n n' m m':Int}(hn:n<=n')(hm:m<=m'){x:MIns}(h:insM n m x=true):insM n' m' x=true:=by
 unfold insM at h ⊢
 split
 .rename_i q
  rw [if_pos q] at h
  simp only [Bool.and_eq_true,decide_eq_true_eq] at h ⊢
  obtain ⟨⟨⟨h1,h2⟩,h3⟩,h4⟩:=h;exact ⟨⟨⟨h1,by omega⟩,h3⟩,h4⟩
 .rename_i q
  rw [if_neg q] at h
  split
  .rename_i q2
   rw [if_pos q2] at h
   simp only [Bool.and_eq_true,decide_eq_true_eq] at h ⊢
   obtain ⟨⟨⟨h1,h2⟩,h3,h4⟩,h5⟩:=h;exact ⟨⟨⟨h1,by omega⟩,h3,by omega⟩,h5⟩
  .rename_i q2
   rw [if_neg q2] at h
   exact h
theorem OkS.emit{s:CS}(h:OkS s){i:MIns}(hi:insM ((s.ins.length:Int)+2) s.pats.length i=true):OkS (s.emit i):=by
 refine ⟨fun j hj=>?_,h.pats⟩
 rw [xk];show insM _ (s.pats.length:Int) j=true;rcases List.mem_append.1 hj with hj|hj
 .exact Yu (by omega) (Int.le_refl _) (h.ins j hj)
 .rw [List.mem_singleton.1 hj];exact Yu (by omega) (Int.le_refl _) hi
theorem Okk.emit{s:CS}(h:Okk s){i:MIns}(hi:insM ((s.ins.length:Int)+2) s.pats.length i=true):Okk (s.emit i):=fun hl=>(h hl).emit hi
theorem set_mem{l:List MIns}{k:Nat}{x i:MIns}(h:i∈l.set k x):i∈l\/i=x:=List.mem_or_eq_of_mem_set h
theorem OkS.set{s:CS}(h:OkS s){k:Nat}{x:MIns}(hx:insM ((s.ins.length:Int)+1) s.pats.length x=true)(b:Bool):OkS ⟨s.ins.set k x,s.pats,b⟩:=by
 refine ⟨fun i hi=>?_,h.pats⟩
 rw [List.length_set];rcases set_mem hi with hi|rfl
 .exact h.ins i hi
 .exact hx
theorem uA7{op:Int}(h:xq op=true){a n m:Int}(h0:0<=a)(h1:a<n):insM n m ⟨op,a,0,eS⟩=true:=by
 unfold insM;rw [if_pos h];simp only [ZP,List.isEmpty_nil,Bool.and_eq_true,decide_eq_true_eq];exact ⟨⟨⟨h0,h1⟩,rfl⟩,trivial⟩
theorem zj{op:Int}(h:op=3\/op=5\/op=10\/op=11\/op=14\/op=17\/op=19\/op=21\/op=22\/op=23\/op=24\/op=25)(n m:Int):insM n m ⟨op,0,0,eS⟩=true:=by
 rcases h with h|h|h|h|h|h|h|h|h|h|h|h<;>(subst h;simp only [insM,xq,ZP];rfl)
theorem Z2{op:Int}(h:op=6\/op=15){a n m:Int}(h0:0<=a)(h1:a<=3000):insM n m ⟨op,a,0,eS⟩=true:=by
 rcases h with h|h<;>(subst h;simp [insM,xq,ZP];omega)
theorem ins_arm{a b n m:Int}(h0:0<=a)(h1:a<m)(h2:0<=b)(h3:b<n):insM n m ⟨20,a,b,eS⟩=true:=by
 simp [insM,xq,ZP];omega
theorem ins_given{x:ByteArray}(h:yR x=true)(n m:Int):insM n m ⟨7,0,0,x⟩=true:=by
 simp [insM,xq,h]
theorem ins_end{a:EI}{l:List ET}(ok:okN a l)(h:endK a.kind=true)(n m:Int):insM n m (endI a l.length)=true:=by
 have v:=ok.v;unfold endI;cases v with
 | int k e h1 h2 h3=>simp [k,insM,xq,ZP];omega
 | str k e=>simp [k,insM,xq]
 | unit k e=>simp only [k,Int.reduceEq,if_false,if_true];exact zj (by decide) n m
 | con0 k e hs=>
  subst e;have hs':yv a.s 0 true=true:=by
   unfold yv at hs ⊢
   split
   .rfl
   .rename_i q1
    rw [if_neg q1] at hs
    split
    .rename_i q2;rw [if_pos q2] at hs;simp at hs
    .rename_i q2;rw [if_neg q2] at hs;exact hs
  simp [k,insM,xq,hs']
 | cons b x y k e hb hs=>
  subst e;have hs':yv a.s 1 true=true:=by
   unfold yv;rw [if_neg (by rw [hs];decide),if_pos (by rw [hs];decide)];rfl
  simp [k,insM,xq,hs']
 | con1 x k e hs=>
  subst e;have hs':yv a.s 1 true=true:=by
   unfold yv;have hc:∀ l,conM l=false->a.s.toList≠l:=fun l hl q=>by
    rw [ByteArray.toList_eq] at q
    rw [q] at hs;rw [hl] at hs;cases hs
   rw [if_neg (by simp only [Bool.or_eq_true,beq_iff_eq];rintro ((q|q)|q)<;>exact hc _ (by decide) q),if_neg (by simp only [beq_iff_eq];exact hc _ (by decide)),hs];rfl
  simp [k,insM,xq,hs']
 | app x y k e=>simp only [k,Int.reduceEq,if_false,if_true];exact zj (by decide) n m
 | prim x y k e hs=>simp [k,insM,xq,hs]
 | pair x y k e=>simp only [k,Int.reduceEq,if_false,if_true];exact zj (by decide) n m
 | raise x k e=>simp only [k,Int.reduceEq,if_false,if_true];exact zj (by decide) n m
 | ref x k e=>simp only [k,Int.reduceEq,if_false,if_true];exact zj (by decide) n m
 | get x k e=>simp only [k,Int.reduceEq,if_false,if_true];exact zj (by decide) n m
 | set x y k e=>simp only [k,Int.reduceEq,if_false,if_true];exact zj (by decide) n m
 | var k e=>rw [k] at h;cases h
 | func x k e=>rw [k] at h;cases h
 | let_ x y k e=>rw [k] at h;cases h
 | rec_ b x y k e=>rw [k] at h;cases h
 | if_ x y z k e=>rw [k] at h;cases h
 | mat x r k e=>rw [k] at h;cases h
 | try_ x y k e=>rw [k] at h;cases h
 | seq x y k e=>rw [k] at h;cases h
def KO(w:Nat)(f:CF):Prop:=∀ env s,env.length+w<=3000->Ext s (f env s)/\(Okk s->Okk (f env s))
theorem KO.mono{w w':Nat}{f:CF}(h:KO w f)(hw:w<=w'):KO w' f:=fun env s hl=>h env s (by omega)
theorem vu{s0 s':CS}{k:Nat}{op a0:Int}(hx:Ext s0 s')(hk:s0.ins.length<=k)(hg:s'.ins[k]?=some ⟨op,a0,0,eS⟩)(hl:xq op=true):Ext s0 (s'.here k)/\(Okk s'->Okk (s'.here k)):=by
 have e:s'.here k=⟨s'.ins.set k ⟨op,s'.ins.length,0,eS⟩,s'.pats,s'.lost⟩:=by unfold CS.here;rw [xaC hg]
 rw [e];exact ⟨set_ext hx hk _ _,fun h hlost=>(h hlost).set (uA7 hl (by omega) (by omega)) _⟩
theorem Ue{s:CS}{j k:Nat}{i:MIns}(h:s.ins[j]?=some i)(hne:k≠j):(s.here k).ins[j]?=some i:=by
 unfold CS.here setA;split
 .show (s.ins.set k _)[j]?=_
  rw [List.getElem?_set_ne hne];exact h
 .exact h
theorem ko_name(x:ByteArray):KO 0 (zR x):=fun env s hl=>by
 unfold zR;have hv:∀ (l:List ByteArray) (i a:Nat),idxR x l i=some a->a<i+l.length:=fun l=>by
  induction l with
  | nil=>intro i a h;cases h
  | cons y l ih=>
   intro i a h;rw [idxR] at h
   split at h
   .injection h with h;subst h;simp
   .have:=ih _ _ h;simp only [List.length_cons];omega
 split
 .rename_i a h
  have:=hv _ _ _ h;rw [List.length_reverse] at this
  exact ⟨Ext.emit _ _,fun h=>h.emit (Z2 (.inl rfl) (by omega) (by omega))⟩
 .refine ⟨⟨⟨[_],rfl⟩,Nat.le_refl _⟩,fun h hlost=>?_⟩
  have hlost:(s.lost||!yR x)=false:=hlost
  simp only [Bool.or_eq_false_iff,Bool.not_eq_false'] at hlost
  have:=(h hlost.1).emit (ins_given hlost.2 _ _);exact ⟨this.ins,this.pats⟩
theorem ko_fun{w:Nat}{f:CF}(h:KO w f){op:Int}(ho:op=8\/op=9)(names:List ByteArray):KO (w+names.length) (funC op f names):=fun env s hl=>by
 have hlo:xq op=true:=by rcases ho with h|h<;>(subst h;rfl)
 have hF:=h (env++names) (yz op s) (by rw [List.length_append];omega)
 have e0:Ext s (yz op s):=(Ext.emit s _).trans (Ext.emit _ _);have e1:Ext (yz op s) ((f (env++names) (yz op s)).emit ⟨11,0,0,eS⟩):=hF.1.trans (Ext.emit _ _);have hg:(yz op s).ins[s.ins.length+1]?=some ⟨12,0,0,eS⟩:=by
  have:=vY (s.emit ⟨op,(s.ins.length:Int)+2,0,eS⟩) ⟨12,0,0,eS⟩;rw [xk] at this
  exact this
 obtain ⟨q1,q2⟩:=vu (e0.trans e1) (k:=s.ins.length+1) (by omega) (e1.get hg) rfl
 refine ⟨q1,fun hs=>q2 (Okk.emit (hF.2 ?_) (zj (by decide) _ _))⟩
 intro hlost;have h0:=hs hlost;have h1:OkS (yz op s):=by
  refine ⟨fun i hi=>?_,h0.pats⟩
  have hlen:(yz op s).ins.length=s.ins.length+2:=by unfold yz;rw [xk,xk]
  rw [hlen];show insM _ (s.pats.length:Int) i=true;have hi:i∈(s.ins++[⟨op,(s.ins.length:Int)+2,0,eS⟩])++[⟨12,0,0,eS⟩]:=hi;simp only [List.mem_append,List.mem_singleton] at hi
  rcases hi with (hi|hi)|hi
  .exact Yu (by omega) (Int.le_refl _) (h0.ins i hi)
  .rw [hi];exact uA7 hlo (by omega) (by omega)
  .rw [hi];exact uA7 rfl (by omega) (by omega)
 exact h1
theorem KO.emit{w:Nat}{f:CF}(hf:KO w f){i:MIns}(hi:∀ n m:Int,1<=n->insM n m i=true):KO w (fun env s=>(f env s).emit i):=fun env s hl=>by
 obtain ⟨a1,a2⟩:=hf env s hl;exact ⟨a1.trans (Ext.emit _ _),fun h=>(a2 h).emit (hi _ _ (by omega))⟩
theorem lead0{op:Int}(h:xq op=true):∀ n m:Int,1<=n->insM n m ⟨op,0,0,eS⟩=true:=fun n m hn=>uA7 h (by omega) (by omega)
theorem drop1:∀ n m:Int,1<=n->insM n m ⟨15,1,0,eS⟩=true:=fun n m hn=>Z2 (.inr rfl) (by omega) (by omega)
theorem ko_kids{W:ET->Nat}(chk:Bool):∀ (ts:List ET) (w:Nat),(∀ t∈ts,KO w (cmp chk t))->KO w (x6 (ts.map (cmp chk)))
 | [],w,_=>fun env s hl=>⟨Ext.refl _,fun h=>h⟩
 | t::ts,w,h=>fun env s hl=>by
  obtain ⟨a1,a2⟩:=h t (by simp) env s hl
  obtain ⟨b1,b2⟩:=ko_kids (W:=W) chk ts w (fun x hx=>h x (by simp [hx])) env (cmp chk t env s) hl
  exact ⟨a1.trans b1,fun q=>b2 (a2 q)⟩
theorem ko_if{w:Nat}{f g h:CF}(hf:KO w f)(hg:KO w g)(hh:KO w h):KO w (ifC f g h):=fun env s hl=>by
 unfold ifC;generalize hs1:(f env s).emit ⟨13,0,0,eS⟩=s1;have a:=(hf.emit (lead0 (op:=13) rfl)) env s hl;have ag:s1.ins[(f env s).ins.length]?=some ⟨13,0,0,eS⟩:=by rw [<- hs1];exact vY _ _
 have al:(f env s).ins.length+1=s1.ins.length:=by rw [<- hs1,xk]
 have afl:=(hf env s hl).1.len;simp only [hs1] at a
 obtain ⟨b1,b2⟩:=(hg.emit (lead0 (op:=12) rfl)) env s1 hl;have bg:=vY (g env s1) ⟨12,0,0,eS⟩;have bl:=(hg env s1 hl).1.len;simp only at b1 b2
 obtain ⟨c1,c2⟩:=vu (a.1.trans b1) (k:=(f env s).ins.length) (by omega) (b1.get ag) rfl
 have cg:=Ue (k:=(f env s).ins.length) bg (by omega)
 obtain ⟨d1,d2⟩:=hh env (((g env s1).emit ⟨12,0,0,eS⟩).here (f env s).ins.length) hl;obtain ⟨e1,e2⟩:=vu (c1.trans d1) (k:=(g env s1).ins.length) (by omega) (d1.get cg) rfl
 exact ⟨e1,fun q=>e2 (d2 (c2 (b2 (a.2 q))))⟩
theorem ko_try{w:Nat}{f g:CF}(hf:KO w f)(hg:KO w g)(x:ByteArray):KO (w+1) (tryC f g x):=fun env s hl=>by
 unfold tryC;generalize hs1:s.emit ⟨18,0,0,eS⟩=s1;have ae:Ext s s1:=by rw [<- hs1];exact Ext.emit _ _
 have ao:Okk s->Okk s1:=fun h=>by rw [<- hs1];exact h.emit (uA7 rfl (by omega) (by omega))
 have ag:s1.ins[s.ins.length]?=some ⟨18,0,0,eS⟩:=by rw [<- hs1];exact vY _ _
 obtain ⟨b1,b2⟩:=(hf.emit (i:=⟨19,0,0,eS⟩) fun n m _=>zj (by decide) n m) env s1 (by omega)
 simp only at b1 b2
 generalize (f env s1).emit ⟨19,0,0,eS⟩=s2 at b1 b2 ⊢
 have cg:=vY s2 ⟨12,0,0,eS⟩;have ce:Ext s1 (s2.emit ⟨12,0,0,eS⟩):=b1.trans (Ext.emit _ _);have l1:=b1.len;have l0:s.ins.length+1=s1.ins.length:=by rw [<- hs1,xk]
 obtain ⟨c1,c2⟩:=vu (ae.trans ce) (k:=s.ins.length) (Nat.le_refl _) (ce.get ag) rfl;have cg2:=Ue (k:=s.ins.length) cg (by omega)
 generalize (s2.emit ⟨12,0,0,eS⟩).here s.ins.length=s3 at c1 c2 cg2 ⊢
 obtain ⟨d1,d2⟩:=(hg.emit drop1) (env++[x]) s3 (by simp only [List.length_append,List.length_singleton];omega)
 simp only at d1 d2
 obtain ⟨e1,e2⟩:=vu (c1.trans d1) (k:=s2.ins.length) (by omega) (d1.get cg2) rfl
 exact ⟨e1,fun q=>e2 (d2 (c2 ((b2 (ao q)).emit (uA7 rfl (by omega) (by omega)))))⟩
theorem ko_arm{w:Nat}{f:CF}(hf:KO w f)(q:MPat)(hq:patM q.nodes=true)(env:List ByteArray)(s:CS)(hl:env.length+(w+pvn q)<=3000):Ext s (armC q f env s)/\(Okk s->Okk (armC q f env s))/\(armC q f env s).ins[(armC q f env s).ins.length - 1]?=some ⟨12,0,0,eS⟩/\s.ins.length<=(armC q f env s).ins.length - 1:=by
 have hp:(pnames q.nodes).length=pvn q:=rfl;have e0:Ext s (arm0 q s):=⟨⟨[_],rfl⟩,by show _<=(s.pats++[q]).length;rw [List.length_append];omega⟩
 have g0:(arm0 q s).ins[s.ins.length]?=some ⟨20,s.pats.length,0,eS⟩:=by simp [arm0]
 obtain ⟨a1,a2⟩:=hf (env++pnames q.nodes) (arm0 q s) (by rw [List.length_append,hp];omega)
 have e1:Ext (arm0 q s) (arm1 q f env s):=(a1.trans (Ext.emit _ _)).trans (Ext.emit _ _);have hlast:(arm1 q f env s).ins[(arm1 q f env s).ins.length - 1]?=some ⟨12,0,0,eS⟩:=by
  unfold arm1;rw [xk];exact vY _ _
 have g1:=e1.get g0;have l0:(arm0 q s).ins.length=s.ins.length+1:=by simp [arm0]
 have l1:(arm0 q s).ins.length+2<=(arm1 q f env s).ins.length:=by
  unfold arm1;rw [xk,xk];have:=a1.len;omega
 have e:armC q f env s=⟨(arm1 q f env s).ins.set s.ins.length ⟨20,s.pats.length,(arm1 q f env s).ins.length,eS⟩,(arm1 q f env s).pats,(arm1 q f env s).lost⟩:=by unfold armC;rw [setB_get g1]
 have elen:(armC q f env s).ins.length=(arm1 q f env s).ins.length:=by rw [e];simp
 have hpl:s.pats.length<(arm1 q f env s).pats.length:=by
  have h1:=e1.2;have h2:(arm0 q s).pats.length=s.pats.length+1:=by simp [arm0]
  omega
 refine ⟨by rw [e];exact set_ext (e0.trans e1) (Nat.le_refl _) _ _,fun h=>?_,?_,by rw [elen];omega⟩
 .have h1:Okk (arm1 q f env s):=by
   unfold arm1;refine ((a2 ?_).emit (Z2 (.inr rfl) (by omega) (by rw [hp];omega))).emit (uA7 rfl (by omega) (by omega))
   intro hlost;have h0:=h hlost;refine ⟨fun i hi=>?_,fun p hp'=>?_⟩
   .rw [l0]
    have hpn:(arm0 q s).pats.length=s.pats.length+1:=by simp [arm0]
    rw [hpn];have hi:i∈s.ins++[⟨20,s.pats.length,0,eS⟩]:=hi;rcases List.mem_append.1 hi with hi|hi
    .exact Yu (by omega) (by omega) (h0.ins i hi)
    .rw [List.mem_singleton.1 hi];exact ins_arm (by omega) (by omega) (by omega) (by omega)
   .have hp':p∈s.pats++[q]:=hp'
    rcases List.mem_append.1 hp' with hp'|hp'
    .exact h0.pats p hp'
    .rw [List.mem_singleton.1 hp'];exact hq
  rw [e];exact fun hlost=>(h1 hlost).set (ins_arm (by omega) (by omega) (by omega) (by omega)) _
 .rw [elen,e]
  show ((arm1 q f env s).ins.set s.ins.length _)[_]?=_;rw [List.getElem?_set_ne (by omega)];exact hlast
def Jm(s:CS)(j:Nat):Prop:=∃ a,s.ins[j]?=some ⟨12,a,0,eS⟩
theorem ko_arms{W:Nat}:∀ (l:List (MPat×CF)),(∀ p∈l,KO W p.2/\patM p.1.nodes=true/\pvn p.1<=3000)->∀ (env:List ByteArray) (s0 s:CS) (js:List Nat),(∀ p∈l,env.length+(W+pvn p.1)<=3000)->Ext s0 s->(∀ j∈js,s0.ins.length<=j/\Jm s j) ->
  Ext s0 (xx env l s js).1/\(Okk s->Okk (xx env l s js).1)/\∀ j∈(xx env l s js).2,s0.ins.length<=j/\Jm (xx env l s js).1 j
 | [],_,env,s0,s,js,_,hx,hj=>⟨hx,fun h=>h,hj⟩
 | (q,f)::l,h,env,s0,s,js,hw,hx,hj=>by
  obtain ⟨h1,h2,h3⟩:=h (q,f) (by simp)
  obtain ⟨a1,a2,a3,a4⟩:=ko_arm (f:=f) h1 q h2 env s (hw (q,f) (by simp))
  have xl:=hx.len;obtain ⟨b1,b2,b3⟩:=ko_arms l (fun p hp=>h p (List.mem_cons_of_mem _ hp)) env s0 (armC q f env s) (js++[(armC q f env s).ins.length - 1]) (fun p hp=>hw p (List.mem_cons_of_mem _ hp)) (hx.trans a1) (fun j hj'=>by
   rcases List.mem_append.1 hj' with hj'|hj'
   .obtain ⟨c1,a,c2⟩:=hj j hj'
    exact ⟨c1,a,a1.get c2⟩
   .rw [List.mem_singleton.1 hj'];exact ⟨by omega,0,a3⟩)
  exact ⟨b1,fun q=>b2 (a2 q),b3⟩
theorem xak:∀ (js:List Nat) (s0 s:CS),Ext s0 s->(∀ j∈js,s0.ins.length<=j/\Jm s j)->Ext s0 (xY s js)/\(Okk s->Okk (xY s js))
 | [],s0,s,hx,_=>⟨hx,fun h=>h⟩
 | j::js,s0,s,hx,hj=>by
  obtain ⟨h1,a,h2⟩:=hj j (by simp)
  obtain ⟨a1,a2⟩:=vu hx h1 h2 rfl;obtain ⟨b1,b2⟩:=xak js s0 (s.here j) a1 (fun k hk=>by
   obtain ⟨c1,a',c2⟩:=hj k (by simp [hk])
   refine ⟨c1,?_⟩
   by_cases hne:j=k
   .subst hne
    refine ⟨s.ins.length,?_⟩;unfold CS.here;rw [xaC h2];have:=(List.getElem?_eq_some_iff.1 h2).1;show (s.ins.set j _)[j]?=_;rw [List.getElem?_set_self this]
   .exact ⟨a',Ue c2 hne⟩)
  exact ⟨b1,fun q=>b2 (a2 q)⟩
theorem qz_mem{q:MPat}{l:List MPat}(h:q∈l):pvn q<=qz l:=by
 induction l with
 | nil=>cases h
 | cons x l ih=>
  rw [qz];rcases List.mem_cons.1 h with rfl|h
  .omega
  .have:=ih h;omega
def nw(a:EI):Nat:=1+qz a.pats
theorem cmp_ko(chk:Bool):∀ t:ET,okT t->KO (wz nw t) (cmp chk t):=fun t=>by
 induction t using Arb.indS with
 | h t ih=>
  intro ok;obtain ⟨a,l⟩:=t;have ok1:=ok.kid;have ihk:∀ t∈l,KO (wzL nw l) (cmp chk t):=fun t ht=>(ih t (size_lt ht) (ok1 t ht)).mono (wz_mem nw ht)
  rw [uZ];intro env s hl;cases hst:ya chk s with
  | true=>rw [X2 hst];exact ⟨⟨⟨[],by simp⟩,Nat.le_refl _⟩,fun _ h=>by cases h⟩
  | false=>
   have ends:endK a.kind=true->Ext s (cmp chk (.mk a l) env s)/\(Okk s->Okk (cmp chk (.mk a l) env s)):=fun h=>by
    rw [wg hst h];exact (ko_kids (W:=fun _=>0) chk l _ ihk).emit (fun n m _=>ins_end ok.root h n m) env s (by omega)
   have nw1:1<=nw a:=Nat.le_add_right _ _;have v:=ok.root.v;cases v with
   | int k e=>exact ends (by rw [k];rfl)
   | str k e=>exact ends (by rw [k];rfl)
   | con0 k e=>exact ends (by rw [k];rfl)
   | cons b x y k e=>exact ends (by rw [k];rfl)
   | con1 x k e=>exact ends (by rw [k];rfl)
   | app x y k e=>exact ends (by rw [k];rfl)
   | prim x y k e=>exact ends (by rw [k];rfl)
   | pair x y k e=>exact ends (by rw [k];rfl)
   | unit k e=>exact ends (by rw [k];rfl)
   | raise x k e=>exact ends (by rw [k];rfl)
   | ref x k e=>exact ends (by rw [k];rfl)
   | get x k e=>exact ends (by rw [k];rfl)
   | set x y k e=>exact ends (by rw [k];rfl)
   | var k e=>rw [vr hst k];exact ko_name a.s env s (by omega)
   | func x k e=>
    subst e;rw [vk hst k];exact ko_fun (ihk x (by simp)) (.inl rfl) [a.s] env s (by simp only [List.length_singleton];omega)
   | rec_ b x y k e=>
    subst e;rw [vn hst k];have hx:KO (wz nw x) (cmp chk x):=ih x (size_lt2 (r:=[x]) (by simp) (List.mem_cons_self ..)) ((ok1 (.mk b [x]) (by simp)).kid x (by simp))
    have hb:1<=nw b:=Nat.le_add_right _ _;have hw:wz nw x+1<=wz nw (.mk b [x]):=by rw [uZ,wz1];omega
    rw [wz2] at hl
    have h1:=ko_fun hx (.inr rfl) [a.s,b.s] env s (by simp only [List.length_cons,List.length_nil];omega)
    have h2:=((ih y (size_lt (by simp)) (ok1 y (by simp))).emit drop1) (env++[a.s]) (funC 9 (cmp chk x) [a.s,b.s] env s) (by simp only [List.length_append,List.length_singleton];omega)
    exact ⟨h1.1.trans h2.1,fun q=>h2.2 (h1.2 q)⟩
   | seq x y k e=>
    subst e;rw [vo hst k];have h1:=((ihk x (by simp)).emit (i:=⟨25,0,0,eS⟩) fun n m _=>zj (by decide) n m) env s (by omega)
    have h2:=(ihk y (by simp)) env ((cmp chk x env s).emit ⟨25,0,0,eS⟩) (by omega)
    exact ⟨h1.1.trans h2.1,fun q=>h2.2 (h1.2 q)⟩
   | let_ x y k e=>
    subst e;rw [vl hst k];have h1:=((ihk x (by simp)).emit (i:=⟨14,0,0,eS⟩) fun n m _=>zj (by decide) n m) env s (by omega)
    have h2:=((ihk y (by simp)).emit drop1) (env++[a.s]) ((cmp chk x env s).emit ⟨14,0,0,eS⟩) (by simp only [List.length_append,List.length_singleton];omega)
    exact ⟨h1.1.trans h2.1,fun q=>h2.2 (h1.2 q)⟩
   | if_ x y z k e=>
    subst e;rw [Xu hst k];exact ko_if (ihk x (by simp)) (ihk y (by simp)) (ihk z (by simp)) env s (by omega)
   | try_ x y k e=>
    subst e;rw [vq hst k];exact ko_try (ihk x (by simp)) (ihk y (by simp)) a.s env s (by omega)
   | mat x r k e hpl h1r=>
    subst e;rw [vm hst k];unfold matC;rw [wE] at hl
    have hx:=(ih x (size_lt (by simp)) (ok1 x (by simp))) env s (by omega)
    have hq:∀ q∈a.pats,pvn q<=qz a.pats:=fun q hq=>qz_mem hq
    have hnw:nw a=1+qz a.pats:=rfl;obtain ⟨b1,b2,b3⟩:=ko_arms (W:=wzL nw r) (a.pats.zip (r.map (cmp chk))) (fun p hp=>by
     have hz:=List.of_mem_zip hp;obtain ⟨t,ht,e⟩:=List.mem_map.1 hz.2;refine ⟨?_,ok.root.pm _ hz.1,by have:=hq _ hz.1;omega⟩
     rw [<- e];exact (ih t (size_lt (by simp [ht])) (ok1 t (by simp [ht]))).mono (wz_mem nw ht)) env s (cmp chk x env s) [] (fun p hp=>by have:=hq _ (List.of_mem_zip hp).1;omega) hx.1 (by simp)
    have c:=xak _ s ((xx env (a.pats.zip (r.map (cmp chk))) (cmp chk x env s) []).1.emit ⟨21,0,0,eS⟩) (b1.trans (Ext.emit _ _)) (fun j hj=>by
     obtain ⟨d1,a',d2⟩:=b3 j hj;exact ⟨d1,a',(Ext.emit _ _).get d2⟩)
    exact ⟨c.1,fun q=>c.2 ((b2 (hx.2 q)).emit (zj (by decide) _ _))⟩
theorem nw_wz:∀ t:ET,wz nw t=t.size+wz ek t:=fun t=>by
 induction t using Arb.ind with
 | h a l ih=>
  have key:∀ l:List ET,(∀ t∈l,wz nw t=t.size+wz ek t)->wzL nw l=sizeL l+wzL ek l:=fun l=>by
   induction l with
   | nil=>intro _;rw [uj,uj,sizeL_nil]
   | cons t l ihl=>intro h;rw [wE,wE,sizeL_cons,h t (by simp),ihl fun x hx=>h x (by simp [hx])];omega
  rw [uZ,uZ,size_mk,key l ih];show 1+qz a.pats+_=_+(qz a.pats+_);omega
theorem codeI_ok{t:ET}(ok:okT t)(hz:t.size<=600)(hp:wz ek t<=2400)(hl:(cmp true t [] ⟨[],[],false⟩).lost=false):wF ⟨((cmp true t [] ⟨[],[],false⟩).emit ⟨11,0,0,eS⟩).ins,((cmp true t [] ⟨[],[],false⟩).emit ⟨11,0,0,eS⟩).pats⟩=true:=by
 have h0:Okk ⟨[],[],false⟩:=fun _=>⟨by simp,by simp⟩
 have h1:=(cmp_ko true t ok [] ⟨[],[],false⟩ (by rw [nw_wz];show 0+_<=_;omega)).2 h0 hl
 have g:=(xm true t ok).hi [] ⟨[],[],false⟩;have g:(cmp true t [] ⟨[],[],false⟩).ins.length<=0+(4*t.size - 3):=g;generalize cmp true t [] ⟨[],[],false⟩=s at *
 unfold wF;simp only [Bool.and_eq_true,decide_eq_true_eq,List.all_eq_true,xk,Yt];refine ⟨⟨⟨by omega,by omega⟩,h1.pats⟩,fun i hi=>?_⟩
 rcases List.mem_append.1 hi with hi|hi
 .have:=h1.ins i hi
  simpa using this
 .rw [List.mem_singleton.1 hi];exact zj (by decide) _ _
end
section
def no10(l:List UInt8):Bool:=l.all fun b=>!(b.toNat==10)
theorem vd(l m:List UInt8):no10 (l++m)=(no10 l&&no10 m):=by unfold no10;rw [List.all_append]
theorem yx(b:UInt8)(l:List UInt8):no10 (b::l)=(!(b.toNat==10)&&no10 l):=rfl
theorem xao(n:Nat):no10 (decL n)=true:=by
 induction n using Nat.strongRecOn with
 | ind n ih=>
  by_cases h:n<10
  .rw [wV h,yx,vX h]
   have:(48+n==10)=false:=by simp;omega
   rw [this];rfl
  .rw [vW h,vd,ih _ (by omega),yx,vX (by omega)]
   have:(48+n % 10==10)=false:=by simp;omega
   rw [this];rfl
theorem Um(n:Int):no10 (numT n)=true:=by
 unfold numT;split
 .split
  .rw [yx,xao];rfl
  .exact xao _
 .rfl
theorem hexB_10:∀ n:Fin 16,((hexB n).toNat==10)=false:=by decide
theorem no10_quoB(b:UInt8):no10 (quoB b)=true:=by
 have hb:=b.toNat_lt;unfold quoB;split
 .rfl
 .rename_i h0
  have h0':(b.toNat==10)=false:=by simpa using h0
  split
  .rw [yx,yx,h0'];rfl
  .split
   .rw [yx,h0'];rfl
   .have h1:=hexB_10 ⟨b.toNat / 16,by omega⟩
    have h2:=hexB_10 ⟨b.toNat % 16,by omega⟩
    simp only at h1 h2
    rw [yx,yx,yx,yx,h1,h2];rfl
theorem no10_quo(l:List UInt8):no10 (quoL l)=true:=by
 unfold quoL;have key:no10 (l.flatMap quoB)=true:=by
  induction l with
  | nil=>rfl
  | cons b l ih=>rw [List.flatMap_cons,vd,no10_quoB,ih];rfl
 rw [List.cons_append,yx,vd,key];rfl
theorem no10_op(op:Int):no10 (opN op).data.toList=true:=by
 have h:∀ s∈YQ,no10 s.data.toList=true:=by decide
 unfold opN;rw [List.getD_eq_getElem?_getD];cases hq:YQ[op.toNat]? with
 | none=>rfl
 | some x=>exact h _ (List.mem_of_getElem? hq)
theorem no10_word{l:List UInt8}(h:yY l=true):no10 l=true:=by
 unfold yY at h
 unfold no10;rw [List.all_eq_true] at h ⊢
 intro b hb;have:=h b hb;cases hq:(b.toNat==10) with
 | false=>rfl
 | true=>
  simp only [beq_iff_eq] at hq
  unfold worB at this
  rw [hq] at this
  revert this;decide
theorem no10_ins{n m:Int}{x:MIns}(h:insM n m x=true)(h2:¬ x.op=2):no10 x.s.data.toList=true:=by
 have hd:x.s.data.toList=x.s.toList:=by rw [ByteArray.toList_eq]
 have hs:=insM_s h h2
 by_cases h4:x.op=4
 .have h':yv x.s x.a.toNat true=true:=by
   unfold insM xq at h
   simp [h4] at h
   exact h.2
  unfold yv at h'
  split at h'
  .rename_i q
   simp only [Bool.or_eq_true,beq_iff_eq] at q
   rw [hd];rcases q with (q|q)|q<;>(rw [q];rfl)
  .split at h'
   .rename_i q
    simp only [beq_iff_eq] at q
    rw [hd,q];rfl
   .simp only [Bool.and_eq_true] at h'
    have:=h'.1;unfold conM ua at this
    simp only [Bool.and_eq_true] at this
    exact no10_word this.1.1.1
 .by_cases h7:x.op=7
  .have h':yR x.s=true:=by
    unfold insM xq at h
    simp [h7] at h
    exact h.2
   unfold yR at h'
   simp only [Bool.or_eq_true,beq_iff_eq] at h'
   rw [hd];rcases h' with ((q|q)|q)|q<;>(rw [q];rfl)
  .by_cases h16:x.op=16
   .have h':uF x.s=true:=by
     unfold insM xq at h
     simp [h16] at h
     exact h.2
    unfold uF at h'
    rw [List.any_eq_true] at h'
    obtain ⟨l,hl,q⟩:=h';simp only [beq_iff_eq] at q
    rw [hd,q];have:∀ l∈primL,no10 l=true:=by decide
    exact this l hl
   .have e4:(x.op==4)=false:=by simpa using h4
    have e7:(x.op==7)=false:=by simpa using h7
    have e16:(x.op==16)=false:=by simpa using h16
    rw [e4,e7,e16] at hs
    simp at hs
    rw [hd,hs];rfl
def nls(l:List UInt8):Nat:=l.countP fun b=>b.toNat==10
theorem Vy(l m:List UInt8):nls (l++m)=nls l+nls m:=List.countP_append
theorem nls_no{l:List UInt8}(h:no10 l=true):nls l=0:=by
 unfold nls no10 at *
 rw [List.countP_eq_zero];rw [List.all_eq_true] at h
 intro b hb;have:=h b hb
 simpa using this
theorem line_nls{n m:Int}(k:Nat){x:MIns}(h:insM n m x=true):nls (yH k x)=1:=by
 have e:∃ l,yH k x=l++[10]/\no10 l=true:=by
  refine ⟨numT k++(32::((opN x.op).data.toList++((if aB x.op then 32::numT x.a else [])++((if x.op==20 then 32::numT x.b else [])++(if x.op==2 then 32::quoL x.s.data.toList else if x.s.toList.isEmpty then [] else 32::x.s.data.toList))))),?_,?_⟩
  .unfold yH
   simp only [List.append_assoc,List.cons_append]
  .rw [vd,Um,yx,vd,no10_op,vd,vd]
   have a1:no10 (if aB x.op then 32::numT x.a else [])=true:=by
    split
    .rw [yx,Um];rfl
    .rfl
   have a2:no10 (if x.op==20 then 32::numT x.b else [])=true:=by
    split
    .rw [yx,Um];rfl
    .rfl
   have a3:no10 (if x.op==2 then 32::quoL x.s.data.toList else if x.s.toList.isEmpty then [] else 32::x.s.data.toList)=true:=by
    split
    .rw [yx,no10_quo];rfl
    .rename_i q
     split
     .rfl
     .rw [yx,no10_ins h (by simpa using q)];rfl
   rw [a1,a2,a3];rfl
 obtain ⟨l,e,hl⟩:=e;rw [e,Vy,nls_no hl];rfl
theorem xaL{n m:Int}{xs:List MIns}(h:∀ x∈xs,insM n m x=true):∀ k,k<=xs.length->nls (vQ xs k)=k
 | 0,_=>rfl
 | k+1,hk=>by
  rw [Zm (by omega),Vy,xaL h k (by omega),line_nls k (h _ (List.getElem_mem (by omega)))]
theorem code_nls{c:MCode}(h:wF c=true):nls (uz c)=c.ins.length:=by
 unfold uz;rw [if_pos h];exact xaL (Yr h).2.2 _ (Nat.le_refl _)
end
section
open Go.RowKit Arb
theorem nls_succ{l:List UInt8}{k:Nat}(h:k<l.length):nls (l.take (k+1))=nls (l.take k)+(if l[k].toNat=10 then 1 else 0):=by
 rw [List.take_succ_eq_append_getElem h,Vy];unfold nls;rw [List.countP_cons,List.countP_nil]
 by_cases q:l[k].toNat=10
 .rw [if_pos q];simp [q]
 .rw [if_neg q];simp [q]
theorem ins_ok{n m:Int}{x:MIns}(hn:n<=1000000)(hm:m<=1000000)(h:insM n m x=true)(hs:x.s.size<=1048576):x.ok:=by
 have ho:=Vv h;have ab:I64 x.a/\I64 x.b:=by
  unfold insM at h
  split at h
  .simp only [Bool.and_eq_true,decide_eq_true_eq,beq_iff_eq] at h
   exact ⟨⟨by omega,by omega⟩,by omega,by omega⟩
  split at h
  .simp only [Bool.and_eq_true,decide_eq_true_eq,beq_iff_eq] at h
   exact ⟨⟨by omega,by omega⟩,by omega,by omega⟩
  split at h
  .simp only [Bool.and_eq_true,decide_eq_true_eq,beq_iff_eq] at h
   exact ⟨⟨by omega,by omega⟩,by omega,by omega⟩
  split at h
  .simp only [Bool.and_eq_true,decide_eq_true_eq,beq_iff_eq] at h
   exact ⟨⟨by omega,by omega⟩,by omega,by omega⟩
  split at h
  .simp only [Bool.and_eq_true,decide_eq_true_eq,beq_iff_eq] at h
   exact ⟨⟨by omega,by omega⟩,by omega,by omega⟩
  split at h
  .simp only [Bool.and_eq_true,decide_eq_true_eq,beq_iff_eq] at h
   exact ⟨⟨by omega,by omega⟩,by omega,by omega⟩
  split at h
  .simp only [Bool.and_eq_true,decide_eq_true_eq,beq_iff_eq] at h
   exact ⟨⟨by omega,by omega⟩,by omega,by omega⟩
  split at h
  .simp only [Bool.and_eq_true,decide_eq_true_eq,beq_iff_eq] at h
   exact ⟨⟨by omega,by omega⟩,by omega,by omega⟩
  .simp only [Bool.and_eq_true,decide_eq_true_eq,beq_iff_eq] at h
   exact ⟨⟨by omega,by omega⟩,by omega,by omega⟩
 exact ⟨⟨by omega,by omega⟩,ab.1,ab.2,by show x.s.size<=maxLen;unfold maxLen;omega⟩
theorem code_ok{p:MProgram}(ho:p.ok){t:ET}(ht:p.nodes=Arb.lay EI.node 0 t)(ok:okT t){c:MCode}(hc:c=⟨(yC true t).ins,(yC true t).pats⟩)(hM:wF c=true)(hm:c.pats.length<=1000000)(csm:c.sm):c.ok:=by
 have hA:=At.zero (f:=EI.node) t;rw [<- ht] at hA
 have h1:All (fun a _=>True/\∀ q∈a.pats,q.ok) t:=all_of t 0 hA fun j x l hj=>⟨trivial,(ho.2 _ (List.mem_of_getElem? hj.root)).2.2.2.2.2⟩
 have hsm:=(cmp_sm true (R:=fun _=>True) (Q:=MPat.ok) trivial t ok h1 [] ⟨[],[],false⟩ ⟨by simp,by simp⟩).emit ⟨11,0,0,eS⟩ trivial
 obtain ⟨i1,i2,i3⟩:=Yr hM;refine ⟨fun x hx=>ins_ok (by omega) (by omega) (i3 x hx) (csm.1.2 x hx),fun q hq=>?_⟩
 rw [hc] at hq
 exact hsm.pats q hq
structure CTAns(p:MProgram)(c:MCode)(b:Bool):Prop where
 i:FT 18 [.ag p.enc] (fun r _=>r=.tup [.ag c.own,.s (.bool b)])
 s:FT 19 [.ag p.enc] (fun r _=>r=.tup [.ag c.enc,.s (.bool b)])
 no:b=false->c.ins=[]
 tx:b=true->FT 20 [.ag c.enc] (fun r _=>r=.s (.string (bs (uz c))))
 ok:b=true->FT 21 [.ag c.enc] (fun r _=>r=.s (.bool true))
 nl:b=true->nls (uz c)=c.ins.length
 lst:b=true->∃ l,c.ins=l++[⟨11,0,0,eS⟩]
 len:b=true->(uz c).length<=12600000000
theorem comp_ct(p:MProgram)(ho:p.ok)(hs:p.sm)(hv:pvs p<=1101):∃ c b,CTAns p c b:=by
 obtain ⟨c,b,h⟩:=comp_both p ho hs;obtain ⟨csm,-⟩:=code_sm h hs;refine ⟨c,b,h.impl,h.spec,fun hb=>by rw [h.no hb],?_,?_,?_,?_,?_⟩
 all_goals
  intro hb;obtain ⟨hp,t,ht,ok,hz,hl,hc⟩:=h.ok hb;have hw:wz ek t<=2400:=by
   have:=pvs_lay t p.types;have e:p=⟨p.types,Arb.lay EI.node 0 t⟩:=by rw [<- ht]
   rw [<- e] at this
   omega
  have hM:=codeI_ok ok hz hw hl;have hcM:wF c=true:=by rw [hc];exact hM
  have hins:=Yr hcM;have hpn:c.pats.length<=1000000:=by
   rw [hc];have:=(xm true t ok).phi [] ⟨[],[],false⟩;have:(cmp true t [] ⟨[],[],false⟩).pats.length<=0+(2*t.size - 1):=this;show (cmp true t [] ⟨[],[],false⟩).pats.length<=_;omega
  have cok:c.ok:=code_ok ho ht ok hc hcM hpn csm
 .exact Vl c cok csm
 .have:=ZJ c cok csm
  rw [hcM] at this;exact this
 .exact code_nls hcM
 .exact ⟨(cmp true t [] ⟨[],[],false⟩).ins,by rw [hc];rfl⟩
 .unfold uz
  rw [if_pos hcM];have:=Yz (xs:=c.ins) csm.1.2 c.ins.length (Nat.le_refl _);omega
theorem c_FnCompiled(zs:List UInt8):FT 5 [.sl 1 (zs.map u8E)] (fun r _=>r=.s (.bool true)):=by
 by_cases hz:zs.length<=1048576
 .have hb:decide ((zs.length:Int)>1048576)=false:=by simp;omega
  refine FI PM Tryz.func5 Tryz.ntmps5 [] rfl rfl ?_
  iterate 5 (refine xE ?_;simp only [go_sem,simprocAttr,hb];(have hWf:=w1 @hb;repeat' (first|refine zY ?_|refine zI ?_ ?_|((with_reducible apply xc);refine xu (Zt zs) ?_;rintro _ _ ⟨p,rT,rN,rfl,hT,hN,ho,hs,hv⟩)|refine zU (Zt zs) ?_|exact zF1|refine zD fun hb=>?_|exact zC|refine zT ?_|fail)))
  obtain ⟨c,b,hA⟩:=comp_ct p ho hs hv;obtain ⟨hi,hw,hno,htx,hok,hnl,hlst,hlen⟩:=hA;rw [MProgram.enc_eq] at hi hw
  rw [MCode.own_eq] at hi
  rw [MCode.enc_eq] at hw
  cases b with
  | false=>
   have hl0:=hno rfl;have g0:((c.ins.length:Int)==0)=true:=by rw [hl0];rfl
   (have hWf:=w5 @hT @hN @g0 @Qp @Uw;repeat' (first|refine zS ?_|refine zI ?_ ?_|refine zK hi ?_|refine zK hw ?_|exact zF0|refine zD fun hb=>?_|exact zC|refine zT ?_|fail))
  | true=>
   replace htx:=htx rfl;replace hok:=hok rfl;replace hnl:=hnl rfl;replace hlst:=hlst rfl;replace hlen:=hlen rfl;rw [MCode.enc_eq] at htx hok
   obtain ⟨tx,htxe⟩:∃ tx,tx=bs (uz c):=⟨_,rfl⟩;rw [<- htxe] at htx
   (have hWf:=w4 @hT @hN @Qp @Uw;repeat' (first|refine zS ?_|refine zI ?_ ?_|refine zK hi ?_|refine zK hw ?_|refine zK htx ?_|exact zF0|refine zD fun hb=>?_|exact zC|refine zT ?_|fail))
   obtain ⟨l,hl⟩:=hlst;have hln:c.ins.length=l.length+1:=by rw [hl];simp
   have hdl:tx.data.toList=uz c:=by rw [htxe];rfl
   have hsz:tx.size=tx.data.toList.length:=rfl;have hle:tx.size<=12600000000:=by rw [hsz,hdl];exact hlen
   refine xn (fun n σ=>∃ k:Nat,k<=tx.size/\n=tx.size - k/\σ.t 4=.bx 4 0/\σ.b 4=some (.box [.bs 1018 4 c.ins.length,.bs 2018 1 c.pats.length])/\σ.b 1018=some (.arr 49 4 (c.ins.map MIns.own))/\σ.b 2018=some (.arr 89 1 (c.pats.map MPat.own))/\σ.t 8=.s (.int .i64 (nls (tx.data.toList.take k)))/\σ.t 9=.s (.string tx)/\σ.t 10=.s (.int .i64 k)) tx.size ⟨0,Nat.zero_le _,rfl,?_⟩ ?_
   .have hn0:nls ([]:List UInt8)=0:=rfl
    simp only [go_sem,simprocAttr,Int.natCast_zero,List.take_zero,hn0]
    all_goals trace_state
   .rintro n σ ⟨k,hk,rfl,h4,hb4,hb5,hb6,h8,h9,h10⟩ K' hK
    have hnk:nls (tx.data.toList.take k)<=k:=Nat.le_trans List.countP_le_length (by rw [List.length_take];omega)
    by_cases hlt:k<tx.size
    .have hns:=nls_succ (l:=tx.data.toList) (k:=k) (by rw [<- hsz];exact hlt)
     have hgk:tx.data.toList.getD k 0=tx.data.toList[k]'(by rw [<- hsz];exact hlt):=by rw [List.getD_eq_getElem?_getD,List.getElem?_eq_getElem (by rw [<- hsz];exact hlt)];rfl
     by_cases h10b:(tx.data.toList.getD k 0).toNat=10
     .have e10:(((tx.data.toList.getD k 0).toNat:Int)==10)=true:=by rw [h10b];rfl
      rw [<- hgk,if_pos h10b] at hns
      (have hWf:=w8 @h4 @hb4 @hb5 @hb6 @h8 @h9 @h10 @e10;repeat' (first|refine zS ?_|refine zI ?_ ?_|exact zF0|refine zD fun hb=>?_|exact zC|refine zT ?_|fail))
      refine hK (tx.size - (k+1)) _ (by omega) ⟨k+1,by omega,rfl,?_⟩
      simp only [go_sem,simprocAttr,h4,hb4,hb5,hb6,h8,h9,h10,hns,Int.natCast_succ]
      all_goals trace_state
     .have e10:(((tx.data.toList.getD k 0).toNat:Int)==10)=false:=kF' (by omega)
      rw [<- hgk,if_neg h10b] at hns
      (have hWf:=w8 @h4 @hb4 @hb5 @hb6 @h8 @h9 @h10 @e10;repeat' (first|refine zS ?_|refine zI ?_ ?_|exact zF0|refine zD fun hb=>?_|exact zC|refine zT ?_|fail))
      refine hK (tx.size - (k+1)) _ (by omega) ⟨k+1,by omega,rfl,?_⟩
      simp only [go_sem,simprocAttr,h4,hb4,hb5,hb6,h8,h9,h10,hns,Int.natCast_succ]
      all_goals trace_state
    .obtain rfl:k=tx.size:=by omega
     have hfin:nls (tx.data.toList.take tx.size)=c.ins.length:=by rw [hsz,List.take_length,hdl];exact hnl
     rw [hfin,hln] at h8
     rw [hln] at hb4
     have hidx:((((l.length+1:Nat):Int)) - 1).toNat=l.length:=by simp
     have hgd:(c.ins.map MIns.own).getD l.length []=[.s (.int .i64 11),.s (.int .i64 0),.s (.int .i64 0),.s (.string eS)]:=by
      rw [hl,List.map_append,List.getD_eq_getElem?_getD,List.getElem?_append_right (by simp)];simp;rfl
     (have hWf:=w10 @h4 @hb4 @hb5 @hb6 @h8 @h9 @h10 @hidx @hgd @hln;repeat' (first|refine zS ?_|refine zI ?_ ?_|refine zK hok ?_|exact zF0|refine zD fun hb=>?_|exact zC|refine zT ?_|fail))
     all_goals trace_state
 .have hb:decide ((zs.length:Int)>1048576)=true:=by simp;omega
  refine FI PM Tryz.func5 Tryz.ntmps5 [] rfl rfl ?_
  (have hWf:=w1 @hb;repeat' (first|refine zS ?_|refine zI ?_ ?_|exact zF0|refine zD fun hb=>?_|exact zC|refine zT ?_|fail))
end
end Go.Proofs.YtgcdbmcoendcdaaGreat
