/- Parts of the proof. -/
import Derived.Test.YtgcdbmcoendcdaaGreatC9
set_option maxRecDepth 100000
set_option maxHeartbeats 8000000
set_option linter.unusedVariables false
set_option linter.unusedSimpArgs false
namespace Go.Proofs.YtgcdbmcoendcdaaGreat
section
open Go.RowKit
theorem Vh{k:Int}(h:k<1\/19<k):arI k = -1:=by
 unfold arI;split
 .omega
 split
 .omega
 split
 .omega
 split
 .omega
 rfl
theorem ym(k:Int):FT 177 [.s (.int .i64 k)] (fun r _=>r=.s (.int .i64 (arI k))):=by
 by_cases hkd:k<1\/19<k
 .rw [Vh hkd]
  have e1:(k==1)=false:=by simp only [beq_eq_false_iff_ne,ne_eq];omega
  have e2:(k==2)=false:=by simp only [beq_eq_false_iff_ne,ne_eq];omega
  have e3:(k==3)=false:=by simp only [beq_eq_false_iff_ne,ne_eq];omega
  have e4:(k==4)=false:=by simp only [beq_eq_false_iff_ne,ne_eq];omega
  have e5:(k==5)=false:=by simp only [beq_eq_false_iff_ne,ne_eq];omega
  have e6:(k==6)=false:=by simp only [beq_eq_false_iff_ne,ne_eq];omega
  have e7:(k==7)=false:=by simp only [beq_eq_false_iff_ne,ne_eq];omega
  have e8:(k==8)=false:=by simp only [beq_eq_false_iff_ne,ne_eq];omega
  have e9:(k==9)=false:=by simp only [beq_eq_false_iff_ne,ne_eq];omega
  have e10:(k==10)=false:=by simp only [beq_eq_false_iff_ne,ne_eq];omega
  have e11:(k==11)=false:=by simp only [beq_eq_false_iff_ne,ne_eq];omega
  have e12:(k==12)=false:=by simp only [beq_eq_false_iff_ne,ne_eq];omega
  have e13:(k==13)=false:=by simp only [beq_eq_false_iff_ne,ne_eq];omega
  have e14:(k==14)=false:=by simp only [beq_eq_false_iff_ne,ne_eq];omega
  have e15:(k==15)=false:=by simp only [beq_eq_false_iff_ne,ne_eq];omega
  have e16:(k==16)=false:=by simp only [beq_eq_false_iff_ne,ne_eq];omega
  have e17:(k==17)=false:=by simp only [beq_eq_false_iff_ne,ne_eq];omega
  have e18:(k==18)=false:=by simp only [beq_eq_false_iff_ne,ne_eq];omega
  have e19:(k==19)=false:=by simp only [beq_eq_false_iff_ne,ne_eq];omega
  clear hkd;refine FI PM Tryz.func177 Tryz.ntmps177 [] rfl rfl ?_
  (have hWf:=w10 @e1 @e2 @e3 @e4 @e5 @e6 @e7 @e8 @e9 (ai @e10<|ai @e11<|ai @e12<|ai @e13<|ai @e14<|ai @e15<|ai @e16<|ai @e17<|ai @e18<|@e19);repeat' (first|refine zS ?_|refine zI ?_ ?_|exact zF0|refine zD fun hb=>?_|exact zC|refine zT ?_|fail))
 .rcases (show k=1\/k=2\/k=3\/k=4\/k=5\/k=6\/k=7\/k=8\/k=9\/k=10\/k=11\/k=12\/k=13\/k=14\/k=15\/k=16\/k=17\/k=18\/k=19 by omega) with rfl|rfl|rfl|rfl|rfl|rfl|rfl|rfl|rfl|rfl|rfl|rfl|rfl|rfl|rfl|rfl|rfl|rfl|rfl
  all_goals
   clear hkd;refine FI PM Tryz.func177 Tryz.ntmps177 [] rfl rfl ?_
   (have hWf:=f0;repeat' (first|refine zS ?_|refine zI ?_ ?_|exact zF0|refine zD fun hb=>?_|exact zC|refine zT ?_|fail))
   all_goals (try rfl)
theorem yd(k:Int):FT 115 [.s (.int .i64 k)] (fun r _=>r=.s (.int .i64 (arI k))):=by
 by_cases hkd:k<1\/19<k
 .rw [Vh hkd]
  have e1:(k==1)=false:=by simp only [beq_eq_false_iff_ne,ne_eq];omega
  have e2:(k==2)=false:=by simp only [beq_eq_false_iff_ne,ne_eq];omega
  have e3:(k==3)=false:=by simp only [beq_eq_false_iff_ne,ne_eq];omega
  have e4:(k==4)=false:=by simp only [beq_eq_false_iff_ne,ne_eq];omega
  have e5:(k==5)=false:=by simp only [beq_eq_false_iff_ne,ne_eq];omega
  have e6:(k==6)=false:=by simp only [beq_eq_false_iff_ne,ne_eq];omega
  have e7:(k==7)=false:=by simp only [beq_eq_false_iff_ne,ne_eq];omega
  have e8:(k==8)=false:=by simp only [beq_eq_false_iff_ne,ne_eq];omega
  have e9:(k==9)=false:=by simp only [beq_eq_false_iff_ne,ne_eq];omega
  have e10:(k==10)=false:=by simp only [beq_eq_false_iff_ne,ne_eq];omega
  have e11:(k==11)=false:=by simp only [beq_eq_false_iff_ne,ne_eq];omega
  have e12:(k==12)=false:=by simp only [beq_eq_false_iff_ne,ne_eq];omega
  have e13:(k==13)=false:=by simp only [beq_eq_false_iff_ne,ne_eq];omega
  have e14:(k==14)=false:=by simp only [beq_eq_false_iff_ne,ne_eq];omega
  have e15:(k==15)=false:=by simp only [beq_eq_false_iff_ne,ne_eq];omega
  have e16:(k==16)=false:=by simp only [beq_eq_false_iff_ne,ne_eq];omega
  have e17:(k==17)=false:=by simp only [beq_eq_false_iff_ne,ne_eq];omega
  have e18:(k==18)=false:=by simp only [beq_eq_false_iff_ne,ne_eq];omega
  have e19:(k==19)=false:=by simp only [beq_eq_false_iff_ne,ne_eq];omega
  clear hkd;refine FI PM Tryz.func115 Tryz.ntmps115 [] rfl rfl ?_
  (have hWf:=w10 @e1 @e2 @e3 @e4 @e5 @e6 @e7 @e8 @e9 (ai @e10<|ai @e11<|ai @e12<|ai @e13<|ai @e14<|ai @e15<|ai @e16<|ai @e17<|ai @e18<|@e19);repeat' (first|refine zS ?_|refine zI ?_ ?_|exact zF0|refine zD fun hb=>?_|exact zC|refine zT ?_|fail))
 .rcases (show k=1\/k=2\/k=3\/k=4\/k=5\/k=6\/k=7\/k=8\/k=9\/k=10\/k=11\/k=12\/k=13\/k=14\/k=15\/k=16\/k=17\/k=18\/k=19 by omega) with rfl|rfl|rfl|rfl|rfl|rfl|rfl|rfl|rfl|rfl|rfl|rfl|rfl|rfl|rfl|rfl|rfl|rfl|rfl
  all_goals
   clear hkd;refine FI PM Tryz.func115 Tryz.ntmps115 [] rfl rfl ?_
   (have hWf:=f0;repeat' (first|refine zS ?_|refine zI ?_ ?_|exact zF0|refine zD fun hb=>?_|exact zC|refine zT ?_|fail))
   all_goals (try rfl)
def itB(params:Int)(x:TyI):Bool:=x.name.toList.isEmpty&&decide (params<=x.v)
theorem Q4{params:Int}{c:MCon}(h:conM c.name.data.toList=false):yK params c=false:=by unfold yK;rw [h];rfl
theorem con_bad2{params:Int}{c:MCon}(h:c.has=false)(h2:0<c.arg.length):yK params c=false:=by
 unfold yK;rw [h,decide_eq_false (by omega:¬ c.arg.length=0)];simp
theorem con_bad3{params:Int}{c:MCon}(h:c.has=true)(h2:uX c.arg=false):yK params c=false:=by
 unfold yK;rw [h,h2];simp
theorem con_ok1{params:Int}{c:MCon}(h1:conM c.name.data.toList=true)(h:c.has=false)(h2:c.arg.length=0):yK params c=c.arg.all fun x=>!itB params x:=by
 unfold yK;have:c.arg=[]:=List.eq_nil_of_length_eq_zero h2;rw [h1,h,this];rfl
theorem con_ok2{params:Int}{c:MCon}(h1:conM c.name.data.toList=true)(h:c.has=true)(h2:uX c.arg=true):yK params c=c.arg.all fun x=>!itB params x:=by
 unfold yK itB;rw [h1,h,h2];simp
theorem Qt{t:MType}(h:(yM t.name=false\/t.params<0\/2<t.params)\/(t.cons.length:Int)<1\/8<(t.cons.length:Int)):wb t=false:=by
 unfold wb;rcases h with (h|h|h)|h|h
 .rw [h];rfl
 .rw [decide_eq_false (by omega:¬ 0<=t.params)];simp
 .rw [decide_eq_false (by omega:¬ t.params<=2)];simp
 .rw [decide_eq_false (by omega:¬ 1<=t.cons.length)];simp
 .rw [decide_eq_false (by omega:¬ t.cons.length<=8)];simp
theorem xaO{t:MType}(h:(yM t.name=true/\0<=t.params/\t.params<=2)/\1<=(t.cons.length:Int)/\(t.cons.length:Int)<=8):wb t=t.cons.all (yK t.params):=by
 unfold wb;obtain ⟨⟨h1,h2,h3⟩,h4,h5⟩:=h;rw [h1,decide_eq_true h2,decide_eq_true h3,decide_eq_true (by omega:1<=t.cons.length),decide_eq_true (by omega:t.cons.length<=8)]
 rfl
theorem itB_t{p:Int}{x:TyI}(h:x.name.toList.isEmpty=true/\p<=x.v):(!itB p x)=false:=by unfold itB;rw [h.1,decide_eq_true h.2];rfl
theorem itB_f{p:Int}{x:TyI}(h:x.name.toList.isEmpty=false\/x.v<p):(!itB p x)=true:=by
 unfold itB;rcases h with h|h
 .rw [h];rfl
 .rw [decide_eq_false (by omega:¬ p<=x.v)];simp
theorem c_typeOk(t:MType)(ho:t.ok)(hs:t.sm):FT 100 [.ag t.enc] (fun r _=>r=.s (.bool (wb t))):=by
 obtain ⟨o1,o2,o3⟩:=ho;obtain ⟨s1,s2,s3⟩:=hs;refine FI PM Tryz.func100 Tryz.ntmps100 [] rfl rfl ?_
 (have hWf:=w1 @MType.enc_eq;repeat' (first|refine zS ?_|refine zI ?_ ?_|refine zK (uq t.name o1) ?_|refine zK (xv t.params 0 2) ?_|refine zK (xv t.cons.length 1 8) ?_|exact zF0|refine zD fun hb=>?_|exact zC|refine zT ?_|fail))
 .rw [Qt hb]
 .rw [xaO hb]
  refine xn (fun n σ=>∃ k:Nat,k<=t.cons.length/\n=t.cons.length - k/\σ.t 1=.bx 1 0/\σ.b 1=some (.box [.s (.string t.name),.s (.int .i64 t.params),.sl 3 (t.cons.map MCon.enc)])/\σ.t 25=.sl 3 (t.cons.map MCon.enc)/\σ.t 26=.s (.int .i64 t.cons.length)/\σ.t 27=.s (.int .i64 k)/\∀ c∈t.cons.take k,yK t.params c=true) t.cons.length ⟨0,by omega,by omega,?_⟩ ?_
  .simp only [go_sem,simprocAttr,Int.natCast_zero]
   all_goals simp
  .rintro n σ ⟨k,hk,rfl,h1,hb1,h25,h26,h27,hno⟩ K' hK
   by_cases hlt:k<t.cons.length
   .have hx:=xi MCon.enc t.cons k hlt
    have he:=MCon.enc_eq t.cons[k];have hok:=o3 _ (List.getElem_mem hlt);have hsm:=s3 _ (List.getElem_mem hlt);have hal:t.cons[k].arg.length<=1048576:=hsm.2.1;cases hcn:conM t.cons[k].name.data.toList with
    | false=>
     (have hWf:=w8 @h1 @hb1 @h25 @h26 @h27 @hx @he @hcn;repeat' (first|refine zS ?_|refine zI ?_ ?_|refine zK (ud t.cons[k].name hok.1) ?_|((with_reducible apply xc);refine zG (zo t.cons[k].arg hok.2.2 (by omega)) ?_)|refine zU (zo t.cons[k].arg hok.2.2 (by omega)) ?_|exact zF0|refine zD fun hb=>?_|exact zC|refine zT ?_|fail))
     all_goals exact sB (zP hlt (Q4 hcn)).symm
    | true=>
     cases hh:t.cons[k].has with
     | false=>
      by_cases hz:t.cons[k].arg.length=0
      .have hz':decide ((t.cons[k].arg.length:Int)>0)=false:=decide_eq_false (by omega)
       have hco:=con_ok1 (params:=t.params) hcn hh hz
       (have hWf:=w10 @h1 @hb1 @h25 @h26 @h27 @hx @he @hcn @hh @hz';repeat' (first|refine zS ?_|refine zI ?_ ?_|refine zK (ud t.cons[k].name hok.1) ?_|((with_reducible apply xc);refine zG (zo t.cons[k].arg hok.2.2 (by omega)) ?_)|refine zU (zo t.cons[k].arg hok.2.2 (by omega)) ?_|exact zF0|refine zD fun hb=>?_|exact zC|refine zT ?_|fail))
       refine xn (fun n σ=>∃ j:Nat,j<=t.cons[k].arg.length/\n=t.cons[k].arg.length - j/\σ.t 1=.bx 1 0/\σ.b 1=some (.box [.s (.string t.name),.s (.int .i64 t.params),.sl 3 (t.cons.map MCon.enc)])/\σ.t 25=.sl 3 (t.cons.map MCon.enc)/\σ.t 26=.s (.int .i64 t.cons.length)/\σ.t 27=.s (.int .i64 k) /\
        σ.t 59=.sl 3 (t.cons[k].arg.map TyI.enc)/\σ.t 60=.s (.int .i64 t.cons[k].arg.length)/\σ.t 61=.s (.int .i64 j)/\∀ x∈t.cons[k].arg.take j,(!itB t.params x)=true) t.cons[k].arg.length ⟨0,by omega,by omega,?_⟩ ?_
       .simp only [go_sem,simprocAttr,h1,hb1,h25,h26,h27,Int.natCast_zero]
        all_goals simp
       .rintro n σ ⟨j,hj,rfl,g1,gb1,g25,g26,g27,g59,g60,g61,hno2⟩ K'' hK''
        by_cases hlj:j<t.cons[k].arg.length
        .exact absurd hlj (by omega)
        .obtain rfl:j=t.cons[k].arg.length:=by omega
         (have hWf:=w8 @g1 @gb1 @g25 @g26 @g27 @g59 @g60 @g61;repeat' (first|refine zS ?_|refine zI ?_ ?_|exact zF0|refine zD fun hb=>?_|exact zC|refine zT ?_|fail))
         refine hK (t.cons.length - (k+1)) _ (by omega) ⟨k+1,by omega,rfl,?_⟩
         simp only [go_sem,simprocAttr,g1,gb1,g25,g26,g27,Int.natCast_succ];exact xZ hlt hno (by rw [hco];exact yp hno2)
      .have hz':decide ((t.cons[k].arg.length:Int)>0)=true:=decide_eq_true (by omega)
       (have hWf:=w10 @h1 @hb1 @h25 @h26 @h27 @hx @he @hcn @hh @hz';repeat' (first|refine zS ?_|refine zI ?_ ?_|refine zK (ud t.cons[k].name hok.1) ?_|((with_reducible apply xc);refine zG (zo t.cons[k].arg hok.2.2 (by omega)) ?_)|refine zU (zo t.cons[k].arg hok.2.2 (by omega)) ?_|exact zF0|refine zD fun hb=>?_|exact zC|refine zT ?_|fail))
       all_goals exact sB (zP hlt (con_bad2 hh (by omega))).symm
     | true=>
      cases ht:uX t.cons[k].arg with
      | false=>
       (have hWf:=w10 @h1 @hb1 @h25 @h26 @h27 @hx @he @hcn @hh @ht;repeat' (first|refine zS ?_|refine zI ?_ ?_|refine zK (ud t.cons[k].name hok.1) ?_|((with_reducible apply xc);refine zG (zo t.cons[k].arg hok.2.2 (by omega)) ?_)|refine zU (zo t.cons[k].arg hok.2.2 (by omega)) ?_|exact zF0|refine zD fun hb=>?_|exact zC|refine zT ?_|fail))
       all_goals exact sB (zP hlt (con_bad3 hh ht)).symm
      | true=>
       have hco:=con_ok2 (params:=t.params) hcn hh ht
       (have hWf:=w10 @h1 @hb1 @h25 @h26 @h27 @hx @he @hcn @hh @ht;repeat' (first|refine zS ?_|refine zI ?_ ?_|refine zK (ud t.cons[k].name hok.1) ?_|((with_reducible apply xc);refine zG (zo t.cons[k].arg hok.2.2 (by omega)) ?_)|refine zU (zo t.cons[k].arg hok.2.2 (by omega)) ?_|exact zF0|refine zD fun hb=>?_|exact zC|refine zT ?_|fail))
       refine xn (fun n σ=>∃ j:Nat,j<=t.cons[k].arg.length/\n=t.cons[k].arg.length - j/\σ.t 1=.bx 1 0/\σ.b 1=some (.box [.s (.string t.name),.s (.int .i64 t.params),.sl 3 (t.cons.map MCon.enc)])/\σ.t 25=.sl 3 (t.cons.map MCon.enc)/\σ.t 26=.s (.int .i64 t.cons.length)/\σ.t 27=.s (.int .i64 k) /\
        σ.t 59=.sl 3 (t.cons[k].arg.map TyI.enc)/\σ.t 60=.s (.int .i64 t.cons[k].arg.length)/\σ.t 61=.s (.int .i64 j)/\∀ x∈t.cons[k].arg.take j,(!itB t.params x)=true) t.cons[k].arg.length ⟨0,by omega,by omega,?_⟩ ?_
       .simp only [go_sem,simprocAttr,h1,hb1,h25,h26,h27,Int.natCast_zero]
        all_goals simp
       .rintro n σ ⟨j,hj,rfl,g1,gb1,g25,g26,g27,g59,g60,g61,hno2⟩ K'' hK''
        by_cases hlj:j<t.cons[k].arg.length
        .have gx:=xi TyI.enc t.cons[k].arg j hlj
         have ge:=TyI.enc_eq t.cons[k].arg[j]
         (have hWf:=w10 @g1 @gb1 @g25 @g26 @g27 @g59 @g60 @g61 @gx @ge;repeat' (first|refine zS ?_|refine zI ?_ ?_|exact zF0|refine zD fun hb=>?_|exact zC|refine zT ?_|fail))
         .exact sB (zP hlt (by rw [hco];exact zP hlj (itB_t hb))).symm
         .refine hK'' (t.cons[k].arg.length - (j+1)) _ (by omega) ⟨j+1,by omega,rfl,?_⟩
          simp only [go_sem,simprocAttr,g1,gb1,g25,g26,g27,g59,g60,Int.natCast_succ];exact xZ hlj hno2 (itB_f hb)
        .obtain rfl:j=t.cons[k].arg.length:=by omega
         (have hWf:=w8 @g1 @gb1 @g25 @g26 @g27 @g59 @g60 @g61;repeat' (first|refine zS ?_|refine zI ?_ ?_|exact zF0|refine zD fun hb=>?_|exact zC|refine zT ?_|fail))
         refine hK (t.cons.length - (k+1)) _ (by omega) ⟨k+1,by omega,rfl,?_⟩
         simp only [go_sem,simprocAttr,g1,gb1,g25,g26,g27,Int.natCast_succ];exact xZ hlt hno (by rw [hco];exact yp hno2)
   .obtain rfl:k=t.cons.length:=by omega
    (have hWf:=w5 @h1 @hb1 @h25 @h26 @h27;repeat' (first|refine zS ?_|refine zI ?_ ?_|exact zF0|refine zD fun hb=>?_|exact zC|refine zT ?_|fail))
    rw [yp hno]
theorem c_l04Con(c:MCon)(p:Int)(ho:c.ok)(hs:c.sm):FT 48 [.ag c.enc,.s (.int .i64 p)] (fun r _=>r=.s (.bool (yK p c))):=by
 obtain ⟨o1,-,o3⟩:=ho;have hl:=hs.2.1;cases hcn:conM c.name.data.toList with
 | false=>
  rw [Q4 hcn];refine FI PM Tryz.func48 Tryz.ntmps48 [] rfl rfl ?_
  (have hWf:=w2 @MCon.enc_eq @hcn;repeat' (first|refine zS ?_|refine zI ?_ ?_|refine zK (yX c.name o1) ?_|exact zF0|refine zD fun hb=>?_|exact zC|refine zT ?_|fail))
 | true=>
  cases hh:c.has with
  | false=>
   have e:yK p c=decide (c.arg.length=0):=by unfold yK;rw [hcn,hh];simp
   rw [e];refine FI PM Tryz.func48 Tryz.ntmps48 [] rfl rfl ?_
   (have hWf:=w3 @MCon.enc_eq @hcn @hh;repeat' (first|refine zS ?_|refine zI ?_ ?_|refine zK (yX c.name o1) ?_|exact zF0|refine zD fun hb=>?_|exact zC|refine zT ?_|fail))
   all_goals exact sB (by rw [Bool.eq_iff_iff];simp)
  | true=>
   refine FI PM Tryz.func48 Tryz.ntmps48 [] rfl rfl ?_
   (have hWf:=w3 @MCon.enc_eq @hcn @hh;repeat' (first|refine zS ?_|refine zI ?_ ?_|refine zK (yX c.name o1) ?_|exact zF0|refine zD fun hb=>?_|exact zC|refine zT ?_|fail))
   refine xn (fun n σ=>∃ j:Nat,j<=c.arg.length/\n=c.arg.length - j/\σ.t 1=.s (.int .i64 p)/\σ.t 2=.bx 2 0/\σ.b 2=some (.box [.s (.string c.name),.s (.bool true),.sl 3 (c.arg.map TyI.enc)]) /\
    σ.t 21=.sl 3 (c.arg.map TyI.enc)/\σ.t 22=.s (.int .i64 c.arg.length)/\σ.t 23=.s (.int .i64 j)/\∀ x∈c.arg.take j,(!itB p x)=true) c.arg.length ⟨0,by omega,by omega,?_⟩ ?_
   .simp only [go_sem,simprocAttr,Int.natCast_zero,hh]
    all_goals simp
   .rintro n σ ⟨j,hj,rfl,g1,g2,gb2,g21,g22,g23,hno⟩ K' hK
    by_cases hlj:j<c.arg.length
    .have gx:=xi TyI.enc c.arg j hlj
     have ge:=TyI.enc_eq c.arg[j]
     (have hWf:=w8 @g1 @g2 @gb2 @g21 @g22 @g23 @gx @ge;repeat' (first|refine zS ?_|refine zI ?_ ?_|exact zF0|refine zD fun hb=>?_|exact zC|refine zT ?_|fail))
     .refine sB ?_
      have:=zP (p:=fun x:TyI=>!itB p x) hlj (itB_t hb)
      unfold itB at this
      unfold yK;rw [this,hh];simp
     .refine hK (c.arg.length - (j+1)) _ (by omega) ⟨j+1,by omega,rfl,?_⟩
      simp only [go_sem,simprocAttr,g1,g2,gb2,g21,g22,Int.natCast_succ];exact xZ hlj hno (itB_f hb)
    .obtain rfl:j=c.arg.length:=by omega
     (have hWf:=w6 @g1 @g2 @gb2 @g21 @g22 @g23;repeat' (first|refine zS ?_|refine zI ?_ ?_|((with_reducible apply xc);refine zG (UV c.arg o3 (by omega)) ?_)|refine zU (UV c.arg o3 (by omega)) ?_|exact zF0|refine zD fun hb=>?_|exact zC|refine zT ?_|fail))
     refine sB ?_;have:=yp (p:=fun x:TyI=>!itB p x) hno
     unfold itB at this
     unfold yK;rw [this,hh,hcn];simp
theorem we{nodes:List MNode}{n:MNode}{nb:Bool}(h:n.at_<0\/(0<=arI n.kind/\(n.kids.length:Int)≠arI n.kind)\/(n.kind≠13/\0<(n.pats.length:Int))\/(n.kind≠1/\n.kind≠3/\n.n≠0)):yw nodes n nb=false:=by
 unfold yw;rcases h with h|⟨h1,h2⟩|⟨h1,h2⟩|⟨h1,h2,h3⟩
 .rw [decide_eq_false (by omega:¬ 0<=n.at_)];simp
 .rw [decide_eq_false (by omega:¬ arI n.kind<0),decide_eq_false h2];simp
 .rw [decide_eq_false h1,decide_eq_false (by omega:¬ n.pats.length=0)];simp
 .rw [decide_eq_false h1,decide_eq_false h2,decide_eq_false h3];simp
theorem wC{nodes:List MNode}{n:MNode}{nb:Bool}(h1:0<=n.at_)(h2:arI n.kind<0\/(n.kids.length:Int)=arI n.kind)(h3:n.kind=13\/(n.pats.length:Int)=0)(h4:n.kind=1\/n.kind=3\/n.n=0):yw nodes n nb=xV nodes n nb:=by
 unfold yw;rw [decide_eq_true h1];have e2:(decide (arI n.kind<0)||decide ((n.kids.length:Int)=arI n.kind))=true:=by simpa using h2
 have e3:(decide (n.kind=13)||decide (n.pats.length=0))=true:=by
  rcases h3 with h|h
  .rw [decide_eq_true h];rfl
  .rw [decide_eq_true (by omega:n.pats.length=0)];simp
 have e4:(decide (n.kind=1)||decide (n.kind=3)||decide (n.n=0))=true:=by
  rcases h4 with h|h|h<;>simp [h]
 rw [e2,e3,e4];rfl
theorem Un(p:MProgram)(kind:Int)(hkd:(kind=1/\arI kind=0)\/(kind=2/\arI kind=0)\/(kind=3/\arI kind=0))(at_ n:Int)(s:ByteArray)(kids:List Int)(pats:List MPat)(hpl:pats.length<=1048576)(hsz:s.size<=maxLen)(f:FuncId)(caps:List D)(hm:PM.md f=[])(nb:Bool)(hf:FT f (.ag (MNode.mk kind at_ n s kids pats).enc::caps) (fun r _=>r=.s (.bool nb))) :
  FT 97 [.ag p.enc,.ag (MNode.mk kind at_ n s kids pats).enc,.fn f caps] (fun r _=>r=.s (.bool (yw p.nodes ⟨kind,at_,n,s,kids,pats⟩ nb))):=by
 rcases hkd with ⟨rfl,ha⟩|⟨rfl,ha⟩|⟨rfl,ha⟩
 all_goals
  refine FI PM Tryz.func97 Tryz.ntmps97 [(16,10,[],[],(lin [] [0,1,2,3,4,5,6,7,8,9])),(18,3,[],[],(lin [] [0,1,2])),(20,17,[],[],(lin [] [0,1,2,3,4,5,6,7,8,9,10,11,12,13,14,15,16]))] rfl rfl ?_;rw [MNode.enc_eq] at hf
  (have hWf:=w5 @MNode.enc_eq @MProgram.enc_eq @ha @hm @xd;repeat' (first|refine zS ?_|refine zI ?_ ?_|((with_reducible apply xc);refine zG (ym _) ?_)|((with_reducible apply xj);refine xg (ym _) ?_)|refine zK hf ?_|refine zK (xv n 0 4611686018427387903) ?_|refine zK yl ?_|refine zK (yP s) ?_|exact zF0|refine zD fun hb=>?_|exact zC|refine zT ?_|fail))
  all_goals
   (try clear hf)
   first
    | exact fun h=>⟨h,by omega⟩
    | exact fun h=>⟨h,by omega,by omega⟩
    | exact fun h=>⟨h,h,by omega,by omega⟩
    | rw [we (by (try dsimp only [List.length_nil,List.length_cons]);rw [ha];omega)]
    | (rw [wC (by (try dsimp only);omega) (by (try dsimp only [List.length_nil,List.length_cons]);rw [ha];omega) (by (try dsimp only);omega) (by (try dsimp only);omega)];(try simp only [xV,Int.reduceEq,or_false,false_or,or_true,true_or,or_self,if_true,if_false,↓reduceIte,Int.reduceLE,decide_true,Bool.true_and]);(try (refine sB ?_;first|rfl|rfl|(rw [Bool.eq_iff_iff];simp only [Bool.and_eq_true,decide_eq_true_eq,beq_iff_eq];omega)|(simp;done)|(rw [Bool.eq_iff_iff];simp;omega))))
theorem Uo(p:MProgram)(kind:Int)(hkd:(kind=5/\arI kind=1)\/(kind=7/\arI kind=2)\/(kind=15/\arI kind=2))(at_ n:Int)(s:ByteArray)(kids:List Int)(pats:List MPat)(hpl:pats.length<=1048576)(hsz:s.size<=maxLen)(f:FuncId)(caps:List D)(hm:PM.md f=[])(nb:Bool)(hf:FT f (.ag (MNode.mk kind at_ n s kids pats).enc::caps) (fun r _=>r=.s (.bool nb))) :
  FT 97 [.ag p.enc,.ag (MNode.mk kind at_ n s kids pats).enc,.fn f caps] (fun r _=>r=.s (.bool (yw p.nodes ⟨kind,at_,n,s,kids,pats⟩ nb))):=by
 rcases hkd with ⟨rfl,ha⟩|⟨rfl,ha⟩|⟨rfl,ha⟩
 all_goals
  refine FI PM Tryz.func97 Tryz.ntmps97 [(16,10,[],[],(lin [] [0,1,2,3,4,5,6,7,8,9])),(18,3,[],[],(lin [] [0,1,2])),(20,17,[],[],(lin [] [0,1,2,3,4,5,6,7,8,9,10,11,12,13,14,15,16]))] rfl rfl ?_;rw [MNode.enc_eq] at hf
  (have hWf:=w5 @MNode.enc_eq @MProgram.enc_eq @ha @hm @xd;repeat' (first|refine zS ?_|refine zI ?_ ?_|((with_reducible apply xc);refine zG (ym _) ?_)|((with_reducible apply xj);refine xg (ym _) ?_)|refine zK hf ?_|refine zK (xv n 0 4611686018427387903) ?_|refine zK yl ?_|refine zK (yP s) ?_|exact zF0|refine zD fun hb=>?_|exact zC|refine zT ?_|fail))
  all_goals
   (try clear hf)
   first
    | exact fun h=>⟨h,by omega⟩
    | exact fun h=>⟨h,by omega,by omega⟩
    | exact fun h=>⟨h,h,by omega,by omega⟩
    | rw [we (by (try dsimp only [List.length_nil,List.length_cons]);rw [ha];omega)]
    | (rw [wC (by (try dsimp only);omega) (by (try dsimp only [List.length_nil,List.length_cons]);rw [ha];omega) (by (try dsimp only);omega) (by (try dsimp only);omega)];(try simp only [xV,Int.reduceEq,or_false,false_or,or_true,true_or,or_self,if_true,if_false,↓reduceIte,Int.reduceLE,decide_true,Bool.true_and]);(try (refine sB ?_;first|rfl|rfl|(rw [Bool.eq_iff_iff];simp only [Bool.and_eq_true,decide_eq_true_eq,beq_iff_eq];omega)|(simp;done)|(rw [Bool.eq_iff_iff];simp;omega))))
theorem Up(p:MProgram)(kind:Int)(hkd:(kind=6/\arI kind=2)\/(kind=9/\arI kind=3)\/(kind=10/\arI kind=2))(at_ n:Int)(s:ByteArray)(kids:List Int)(pats:List MPat)(hpl:pats.length<=1048576)(hsz:s.size<=maxLen)(f:FuncId)(caps:List D)(hm:PM.md f=[])(nb:Bool)(hf:FT f (.ag (MNode.mk kind at_ n s kids pats).enc::caps) (fun r _=>r=.s (.bool nb))) :
  FT 97 [.ag p.enc,.ag (MNode.mk kind at_ n s kids pats).enc,.fn f caps] (fun r _=>r=.s (.bool (yw p.nodes ⟨kind,at_,n,s,kids,pats⟩ nb))):=by
 rcases hkd with ⟨rfl,ha⟩|⟨rfl,ha⟩|⟨rfl,ha⟩
 all_goals
  refine FI PM Tryz.func97 Tryz.ntmps97 [(16,10,[],[],(lin [] [0,1,2,3,4,5,6,7,8,9])),(18,3,[],[],(lin [] [0,1,2])),(20,17,[],[],(lin [] [0,1,2,3,4,5,6,7,8,9,10,11,12,13,14,15,16]))] rfl rfl ?_;rw [MNode.enc_eq] at hf
  (have hWf:=w5 @MNode.enc_eq @MProgram.enc_eq @ha @hm @xd;repeat' (first|refine zS ?_|refine zI ?_ ?_|((with_reducible apply xc);refine zG (ym _) ?_)|((with_reducible apply xj);refine xg (ym _) ?_)|refine zK hf ?_|refine zK (xv n 0 4611686018427387903) ?_|refine zK yl ?_|refine zK (yP s) ?_|exact zF0|refine zD fun hb=>?_|exact zC|refine zT ?_|fail))
  all_goals
   (try clear hf)
   first
    | exact fun h=>⟨h,by omega⟩
    | exact fun h=>⟨h,by omega,by omega⟩
    | exact fun h=>⟨h,h,by omega,by omega⟩
    | rw [we (by (try dsimp only [List.length_nil,List.length_cons]);rw [ha];omega)]
    | (rw [wC (by (try dsimp only);omega) (by (try dsimp only [List.length_nil,List.length_cons]);rw [ha];omega) (by (try dsimp only);omega) (by (try dsimp only);omega)];(try simp only [xV,Int.reduceEq,or_false,false_or,or_true,true_or,or_self,if_true,if_false,↓reduceIte,Int.reduceLE,decide_true,Bool.true_and]);(try (refine sB ?_;first|rfl|rfl|(rw [Bool.eq_iff_iff];simp only [Bool.and_eq_true,decide_eq_true_eq,beq_iff_eq];omega)|(simp;done)|(rw [Bool.eq_iff_iff];simp;omega))))
theorem Uq(p:MProgram)(kind:Int)(hkd:(kind=11/\arI kind=2)\/(kind=12/\arI kind=0)\/(kind=13/\arI kind = -1))(at_ n:Int)(s:ByteArray)(kids:List Int)(pats:List MPat)(hpl:pats.length<=1048576)(hsz:s.size<=maxLen)(f:FuncId)(caps:List D)(hm:PM.md f=[])(nb:Bool)(hf:FT f (.ag (MNode.mk kind at_ n s kids pats).enc::caps) (fun r _=>r=.s (.bool nb))) :
  FT 97 [.ag p.enc,.ag (MNode.mk kind at_ n s kids pats).enc,.fn f caps] (fun r _=>r=.s (.bool (yw p.nodes ⟨kind,at_,n,s,kids,pats⟩ nb))):=by
 rcases hkd with ⟨rfl,ha⟩|⟨rfl,ha⟩|⟨rfl,ha⟩
 all_goals
  refine FI PM Tryz.func97 Tryz.ntmps97 [(16,10,[],[],(lin [] [0,1,2,3,4,5,6,7,8,9])),(18,3,[],[],(lin [] [0,1,2])),(20,17,[],[],(lin [] [0,1,2,3,4,5,6,7,8,9,10,11,12,13,14,15,16]))] rfl rfl ?_;rw [MNode.enc_eq] at hf
  (have hWf:=w5 @MNode.enc_eq @MProgram.enc_eq @ha @hm @xd;repeat' (first|refine zS ?_|refine zI ?_ ?_|((with_reducible apply xc);refine zG (ym _) ?_)|((with_reducible apply xj);refine xg (ym _) ?_)|refine zK hf ?_|refine zK (xv n 0 4611686018427387903) ?_|refine zK yl ?_|refine zK (yP s) ?_|exact zF0|refine zD fun hb=>?_|exact zC|refine zT ?_|fail))
  all_goals
   (try clear hf)
   first
    | exact fun h=>⟨h,by omega⟩
    | exact fun h=>⟨h,by omega,by omega⟩
    | exact fun h=>⟨h,h,by omega,by omega⟩
    | rw [we (by (try dsimp only [List.length_nil,List.length_cons]);rw [ha];omega)]
    | (rw [wC (by (try dsimp only);omega) (by (try dsimp only [List.length_nil,List.length_cons]);rw [ha];omega) (by (try dsimp only);omega) (by (try dsimp only);omega)];(try simp only [xV,Int.reduceEq,or_false,false_or,or_true,true_or,or_self,if_true,if_false,↓reduceIte,Int.reduceLE,decide_true,Bool.true_and]);(try (refine sB ?_;first|rfl|(rw [show decide ((pats.length:Int) ≥ 1)=decide (1<=pats.length) from (by rw [decide_eq_decide];omega),show ((kids.length:Int)==(pats.length:Int)+1)=decide (kids.length=pats.length+1) from (by rw [Bool.eq_iff_iff];simp only [beq_iff_eq,decide_eq_true_eq];omega)])|(rw [Bool.eq_iff_iff];simp only [Bool.and_eq_true,decide_eq_true_eq,beq_iff_eq];omega)|(simp;done)|(rw [Bool.eq_iff_iff];simp;omega))))
theorem Ur(p:MProgram)(kind:Int)(hkd:(kind=14/\arI kind=1)\/(kind=16/\arI kind=1)\/(kind=17/\arI kind=1))(at_ n:Int)(s:ByteArray)(kids:List Int)(pats:List MPat)(hpl:pats.length<=1048576)(hsz:s.size<=maxLen)(f:FuncId)(caps:List D)(hm:PM.md f=[])(nb:Bool)(hf:FT f (.ag (MNode.mk kind at_ n s kids pats).enc::caps) (fun r _=>r=.s (.bool nb))) :
  FT 97 [.ag p.enc,.ag (MNode.mk kind at_ n s kids pats).enc,.fn f caps] (fun r _=>r=.s (.bool (yw p.nodes ⟨kind,at_,n,s,kids,pats⟩ nb))):=by
 rcases hkd with ⟨rfl,ha⟩|⟨rfl,ha⟩|⟨rfl,ha⟩
 all_goals
  refine FI PM Tryz.func97 Tryz.ntmps97 [(16,10,[],[],(lin [] [0,1,2,3,4,5,6,7,8,9])),(18,3,[],[],(lin [] [0,1,2])),(20,17,[],[],(lin [] [0,1,2,3,4,5,6,7,8,9,10,11,12,13,14,15,16]))] rfl rfl ?_;rw [MNode.enc_eq] at hf
  (have hWf:=w5 @MNode.enc_eq @MProgram.enc_eq @ha @hm @xd;repeat' (first|refine zS ?_|refine zI ?_ ?_|((with_reducible apply xc);refine zG (ym _) ?_)|((with_reducible apply xj);refine xg (ym _) ?_)|refine zK hf ?_|refine zK (xv n 0 4611686018427387903) ?_|refine zK yl ?_|refine zK (yP s) ?_|exact zF0|refine zD fun hb=>?_|exact zC|refine zT ?_|fail))
  all_goals
   (try clear hf)
   first
    | exact fun h=>⟨h,by omega⟩
    | exact fun h=>⟨h,by omega,by omega⟩
    | exact fun h=>⟨h,h,by omega,by omega⟩
    | rw [we (by (try dsimp only [List.length_nil,List.length_cons]);rw [ha];omega)]
    | (rw [wC (by (try dsimp only);omega) (by (try dsimp only [List.length_nil,List.length_cons]);rw [ha];omega) (by (try dsimp only);omega) (by (try dsimp only);omega)];(try simp only [xV,Int.reduceEq,or_false,false_or,or_true,true_or,or_self,if_true,if_false,↓reduceIte,Int.reduceLE,decide_true,Bool.true_and]);(try (refine sB ?_;first|rfl|rfl|(rw [Bool.eq_iff_iff];simp only [Bool.and_eq_true,decide_eq_true_eq,beq_iff_eq];omega)|(simp;done)|(rw [Bool.eq_iff_iff];simp;omega))))
theorem xap(p:MProgram)(kind:Int)(hkd:(kind=18/\arI kind=2)\/(kind=19/\arI kind=2))(at_ n:Int)(s:ByteArray)(kids:List Int)(pats:List MPat)(hpl:pats.length<=1048576)(hsz:s.size<=maxLen)(f:FuncId)(caps:List D)(hm:PM.md f=[])(nb:Bool)(hf:FT f (.ag (MNode.mk kind at_ n s kids pats).enc::caps) (fun r _=>r=.s (.bool nb))) :
  FT 97 [.ag p.enc,.ag (MNode.mk kind at_ n s kids pats).enc,.fn f caps] (fun r _=>r=.s (.bool (yw p.nodes ⟨kind,at_,n,s,kids,pats⟩ nb))):=by
 rcases hkd with ⟨rfl,ha⟩|⟨rfl,ha⟩
 all_goals
  refine FI PM Tryz.func97 Tryz.ntmps97 [(16,10,[],[],(lin [] [0,1,2,3,4,5,6,7,8,9])),(18,3,[],[],(lin [] [0,1,2])),(20,17,[],[],(lin [] [0,1,2,3,4,5,6,7,8,9,10,11,12,13,14,15,16]))] rfl rfl ?_;rw [MNode.enc_eq] at hf
  (have hWf:=w5 @MNode.enc_eq @MProgram.enc_eq @ha @hm @xd;repeat' (first|refine zS ?_|refine zI ?_ ?_|((with_reducible apply xc);refine zG (ym _) ?_)|((with_reducible apply xj);refine xg (ym _) ?_)|refine zK hf ?_|refine zK (xv n 0 4611686018427387903) ?_|refine zK yl ?_|refine zK (yP s) ?_|exact zF0|refine zD fun hb=>?_|exact zC|refine zT ?_|fail))
  all_goals
   (try clear hf)
   first
    | exact fun h=>⟨h,by omega⟩
    | exact fun h=>⟨h,by omega,by omega⟩
    | exact fun h=>⟨h,h,by omega,by omega⟩
    | rw [we (by (try dsimp only [List.length_nil,List.length_cons]);rw [ha];omega)]
    | (rw [wC (by (try dsimp only);omega) (by (try dsimp only [List.length_nil,List.length_cons]);rw [ha];omega) (by (try dsimp only);omega) (by (try dsimp only);omega)];(try simp only [xV,Int.reduceEq,or_false,false_or,or_true,true_or,or_self,if_true,if_false,↓reduceIte,Int.reduceLE,decide_true,Bool.true_and]);(try (refine sB ?_;first|rfl|rfl|(rw [Bool.eq_iff_iff];simp only [Bool.and_eq_true,decide_eq_true_eq,beq_iff_eq];omega)|(simp;done)|(rw [Bool.eq_iff_iff];simp;omega))))
theorem nodeOk_4N(p:MProgram)(at_ n:Int)(s:ByteArray)(pats:List MPat)(hpl:pats.length<=1048576)(hsz:s.size<=maxLen)(f:FuncId)(caps:List D)(hm:PM.md f=[])(nb:Bool)(hf:FT f (.ag (MNode.mk 4 at_ n s [] pats).enc::caps) (fun r _=>r=.s (.bool nb))) :
  FT 97 [.ag p.enc,.ag (MNode.mk 4 at_ n s [] pats).enc,.fn f caps] (fun r _=>r=.s (.bool (yw p.nodes ⟨4,at_,n,s,[],pats⟩ nb))):=by
 have ha:arI 4 = -1:=by decide
 rw [MNode.enc_eq] at hf
 refine FI PM Tryz.func97 Tryz.ntmps97 [(16,10,[],[],(lin [] [0,1,2,3,4,5,6,7,8,9])),(18,3,[],[],(lin [] [0,1,2])),(20,17,[],[],(lin [] [0,1,2,3,4,5,6,7,8,9,10,11,12,13,14,15,16]))] rfl rfl ?_
 (have hWf:=w5 @MNode.enc_eq @MProgram.enc_eq @ha @hm @x5;repeat' (first|refine zS ?_|refine zI ?_ ?_|((with_reducible apply xc);refine zG (ym _) ?_)|((with_reducible apply xj);refine xg (ym _) ?_)|((with_reducible apply xc);refine zG (xy s hsz 0 _) ?_)|((with_reducible apply xj);refine xg (xy s hsz 0 _) ?_)|exact zF0|refine zD fun hb=>?_|exact zC|refine zT ?_|fail))
 all_goals
  (try clear hf)
  first
   | exact fun h=>⟨h,by omega⟩
   | exact fun h=>⟨h,by omega,by omega⟩
   | exact fun h=>⟨h,h,by omega,by omega⟩
   | rw [we (by (try dsimp only [List.length_nil,List.length_cons]);rw [ha];omega)]
   | (rw [wC (by (try dsimp only);omega) (by (try dsimp only [List.length_nil,List.length_cons]);rw [ha];omega) (by (try dsimp only);omega) (by (try dsimp only);omega)];(try simp only [xV,Int.reduceEq,or_false,false_or,or_true,true_or,or_self,if_true,if_false,↓reduceIte,Int.reduceLE,decide_true,Bool.true_and]);(try (refine sB ?_;first|rfl|(congr 1;first|rfl|(congr 1;rw [Bool.eq_iff_iff];simp only [List.length_cons,List.length_nil,decide_eq_true_eq,beq_iff_eq];omega)|(simp [kidK];done))|(rw [Bool.eq_iff_iff];simp only [Bool.and_eq_true,decide_eq_true_eq,beq_iff_eq];omega)|(simp;done)|(rw [Bool.eq_iff_iff];simp;omega))))
theorem nodeOk_4C(p:MProgram)(at_ n:Int)(s:ByteArray)(q:Nat)(l:List Int)(hq:q<p.nodes.length)(hll:l.length<=1048576)(pats:List MPat)(hpl:pats.length<=1048576)(hsz:s.size<=maxLen)(f:FuncId)(caps:List D)(hm:PM.md f=[])(nb:Bool)(hf:FT f (.ag (MNode.mk 4 at_ n s ((q:Int)::l) pats).enc::caps) (fun r _=>r=.s (.bool nb))) :
  FT 97 [.ag p.enc,.ag (MNode.mk 4 at_ n s ((q:Int)::l) pats).enc,.fn f caps] (fun r _=>r=.s (.bool (yw p.nodes ⟨4,at_,n,s,((q:Int)::l),pats⟩ nb))):=by
 have ha:arI 4 = -1:=by decide
 rw [MNode.enc_eq] at hf
 have hn:=xi MNode.enc p.nodes q hq;have hne:=MNode.enc_eq p.nodes[q];have hkk:=fun kd=>YP (nodes:=p.nodes) (l:=(q:Int)::l) (by simp) hq rfl kd
 refine FI PM Tryz.func97 Tryz.ntmps97 [(16,10,[],[],(lin [] [0,1,2,3,4,5,6,7,8,9])),(18,3,[],[],(lin [] [0,1,2])),(20,17,[],[],(lin [] [0,1,2,3,4,5,6,7,8,9,10,11,12,13,14,15,16]))] rfl rfl ?_
 (have hWf:=w7 @MNode.enc_eq @MProgram.enc_eq @ha @hm @x5 @hn @hne;repeat' (first|refine zS ?_|refine zI ?_ ?_|((with_reducible apply xc);refine zG (ym _) ?_)|((with_reducible apply xj);refine xg (ym _) ?_)|((with_reducible apply xc);refine zG (xy s hsz (l.length+1) _) ?_)|((with_reducible apply xj);refine xg (xy s hsz (l.length+1) _) ?_)|exact zF0|refine zD fun hb=>?_|exact zC|refine zT ?_|fail))
 all_goals
  (try clear hf)
  first
   | exact fun h=>⟨h,by omega⟩
   | exact fun h=>⟨h,by omega,by omega⟩
   | exact fun h=>⟨h,h,by omega,by omega⟩
   | rw [we (by (try dsimp only [List.length_nil,List.length_cons]);rw [ha];omega)]
   | (rw [wC (by (try dsimp only);omega) (by (try dsimp only [List.length_nil,List.length_cons]);rw [ha];omega) (by (try dsimp only);omega) (by (try dsimp only);omega)];(try simp only [xV,Int.reduceEq,or_false,false_or,or_true,true_or,or_self,if_true,if_false,↓reduceIte,Int.reduceLE,decide_true,Bool.true_and,hkk]);(try (refine sB ?_;first|rfl|(congr 1;first|rfl|(congr 1;rw [Bool.eq_iff_iff];simp only [List.length_cons,List.length_nil,decide_eq_true_eq,beq_iff_eq];omega)|(simp [kidK];done))|(rw [Bool.eq_iff_iff];simp only [Bool.and_eq_true,decide_eq_true_eq,beq_iff_eq];omega)|(simp;done)|(rw [Bool.eq_iff_iff];simp;omega))))
theorem nodeOk_8N(p:MProgram)(at_ n:Int)(s:ByteArray)(pats:List MPat)(hpl:pats.length<=1048576)(hsz:s.size<=maxLen)(f:FuncId)(caps:List D)(hm:PM.md f=[])(nb:Bool)(hf:FT f (.ag (MNode.mk 8 at_ n s [] pats).enc::caps) (fun r _=>r=.s (.bool nb))) :
  FT 97 [.ag p.enc,.ag (MNode.mk 8 at_ n s [] pats).enc,.fn f caps] (fun r _=>r=.s (.bool (yw p.nodes ⟨8,at_,n,s,[],pats⟩ nb))):=by
 have ha:arI 8=2:=by decide
 rw [MNode.enc_eq] at hf
 refine FI PM Tryz.func97 Tryz.ntmps97 [(16,10,[],[],(lin [] [0,1,2,3,4,5,6,7,8,9])),(18,3,[],[],(lin [] [0,1,2])),(20,17,[],[],(lin [] [0,1,2,3,4,5,6,7,8,9,10,11,12,13,14,15,16]))] rfl rfl ?_
 (have hWf:=w5 @MNode.enc_eq @MProgram.enc_eq @ha @hm @x5;repeat' (first|refine zS ?_|refine zI ?_ ?_|((with_reducible apply xc);refine zG (ym _) ?_)|((with_reducible apply xj);refine xg (ym _) ?_)|refine zK hf ?_|exact zF0|refine zD fun hb=>?_|exact zC|refine zT ?_|fail))
 all_goals
  (try clear hf)
  first
   | exact fun h=>⟨h,by omega⟩
   | exact fun h=>⟨h,by omega,by omega⟩
   | exact fun h=>⟨h,h,by omega,by omega⟩
   | rw [we (by (try dsimp only [List.length_nil,List.length_cons]);rw [ha];omega)]
   | (rw [wC (by (try dsimp only);omega) (by (try dsimp only [List.length_nil,List.length_cons]);rw [ha];omega) (by (try dsimp only);omega) (by (try dsimp only);omega)];(try simp only [xV,Int.reduceEq,or_false,false_or,or_true,true_or,or_self,if_true,if_false,↓reduceIte,Int.reduceLE,decide_true,Bool.true_and]);(try (refine sB ?_;first|rfl|(congr 1;first|rfl|(congr 1;rw [Bool.eq_iff_iff];simp only [List.length_cons,List.length_nil,decide_eq_true_eq,beq_iff_eq];omega)|(simp [kidK];done))|(rw [Bool.eq_iff_iff];simp only [Bool.and_eq_true,decide_eq_true_eq,beq_iff_eq];omega)|(simp;done)|(rw [Bool.eq_iff_iff];simp;omega))))
theorem nodeOk_8C(p:MProgram)(at_ n:Int)(s:ByteArray)(q:Nat)(l:List Int)(hq:q<p.nodes.length)(hll:l.length<=1048576)(pats:List MPat)(hpl:pats.length<=1048576)(hsz:s.size<=maxLen)(f:FuncId)(caps:List D)(hm:PM.md f=[])(nb:Bool)(hf:FT f (.ag (MNode.mk 8 at_ n s ((q:Int)::l) pats).enc::caps) (fun r _=>r=.s (.bool nb))) :
  FT 97 [.ag p.enc,.ag (MNode.mk 8 at_ n s ((q:Int)::l) pats).enc,.fn f caps] (fun r _=>r=.s (.bool (yw p.nodes ⟨8,at_,n,s,((q:Int)::l),pats⟩ nb))):=by
 have ha:arI 8=2:=by decide
 rw [MNode.enc_eq] at hf
 have hn:=xi MNode.enc p.nodes q hq;have hne:=MNode.enc_eq p.nodes[q];have hkk:=fun kd=>YP (nodes:=p.nodes) (l:=(q:Int)::l) (by simp) hq rfl kd
 refine FI PM Tryz.func97 Tryz.ntmps97 [(16,10,[],[],(lin [] [0,1,2,3,4,5,6,7,8,9])),(18,3,[],[],(lin [] [0,1,2])),(20,17,[],[],(lin [] [0,1,2,3,4,5,6,7,8,9,10,11,12,13,14,15,16]))] rfl rfl ?_
 (have hWf:=w7 @MNode.enc_eq @MProgram.enc_eq @ha @hm @x5 @hn @hne;repeat' (first|refine zS ?_|refine zI ?_ ?_|((with_reducible apply xc);refine zG (ym _) ?_)|((with_reducible apply xj);refine xg (ym _) ?_)|refine zK hf ?_|exact zF0|refine zD fun hb=>?_|exact zC|refine zT ?_|fail))
 all_goals
  (try clear hf)
  first
   | exact fun h=>⟨h,by omega⟩
   | exact fun h=>⟨h,by omega,by omega⟩
   | exact fun h=>⟨h,h,by omega,by omega⟩
   | rw [we (by (try dsimp only [List.length_nil,List.length_cons]);rw [ha];omega)]
   | (rw [wC (by (try dsimp only);omega) (by (try dsimp only [List.length_nil,List.length_cons]);rw [ha];omega) (by (try dsimp only);omega) (by (try dsimp only);omega)];(try simp only [xV,Int.reduceEq,or_false,false_or,or_true,true_or,or_self,if_true,if_false,↓reduceIte,Int.reduceLE,decide_true,Bool.true_and,hkk]);(try (refine sB ?_;first|rfl|(congr 1;first|rfl|(congr 1;rw [Bool.eq_iff_iff];simp only [List.length_cons,List.length_nil,decide_eq_true_eq,beq_iff_eq];omega)|(simp [kidK];done))|(rw [Bool.eq_iff_iff];simp only [Bool.and_eq_true,decide_eq_true_eq,beq_iff_eq];omega)|(simp;done)|(rw [Bool.eq_iff_iff];simp;omega))))
theorem nodeOk_X(p:MProgram)(kind:Int)(hkd:kind<1\/19<kind)(at_ n:Int)(s:ByteArray)(kids:List Int)(pats:List MPat)(hpl:pats.length<=1048576)(hsz:s.size<=maxLen)(f:FuncId)(caps:List D)(hm:PM.md f=[])(nb:Bool)(hf:FT f (.ag (MNode.mk kind at_ n s kids pats).enc::caps) (fun r _=>r=.s (.bool nb))) :
  FT 97 [.ag p.enc,.ag (MNode.mk kind at_ n s kids pats).enc,.fn f caps] (fun r _=>r=.s (.bool (yw p.nodes ⟨kind,at_,n,s,kids,pats⟩ nb))):=by
 have ha:=Vh hkd;have e1:(kind==1)=false:=by simp only [beq_eq_false_iff_ne,ne_eq];omega
 have e2:(kind==2)=false:=by simp only [beq_eq_false_iff_ne,ne_eq];omega
 have e3:(kind==3)=false:=by simp only [beq_eq_false_iff_ne,ne_eq];omega
 have e4:(kind==4)=false:=by simp only [beq_eq_false_iff_ne,ne_eq];omega
 have e5:(kind==5)=false:=by simp only [beq_eq_false_iff_ne,ne_eq];omega
 have e6:(kind==6)=false:=by simp only [beq_eq_false_iff_ne,ne_eq];omega
 have e7:(kind==7)=false:=by simp only [beq_eq_false_iff_ne,ne_eq];omega
 have e8:(kind==8)=false:=by simp only [beq_eq_false_iff_ne,ne_eq];omega
 have e9:(kind==9)=false:=by simp only [beq_eq_false_iff_ne,ne_eq];omega
 have e10:(kind==10)=false:=by simp only [beq_eq_false_iff_ne,ne_eq];omega
 have e11:(kind==11)=false:=by simp only [beq_eq_false_iff_ne,ne_eq];omega
 have e12:(kind==12)=false:=by simp only [beq_eq_false_iff_ne,ne_eq];omega
 have e13:(kind==13)=false:=by simp only [beq_eq_false_iff_ne,ne_eq];omega
 have e14:(kind==14)=false:=by simp only [beq_eq_false_iff_ne,ne_eq];omega
 have e15:(kind==15)=false:=by simp only [beq_eq_false_iff_ne,ne_eq];omega
 have e16:(kind==16)=false:=by simp only [beq_eq_false_iff_ne,ne_eq];omega
 have e17:(kind==17)=false:=by simp only [beq_eq_false_iff_ne,ne_eq];omega
 have e18:(kind==18)=false:=by simp only [beq_eq_false_iff_ne,ne_eq];omega
 have e19:(kind==19)=false:=by simp only [beq_eq_false_iff_ne,ne_eq];omega
 have n1:(kind != 1)=true:=by simp only [bne_iff_ne,ne_eq];omega
 have n3:(kind != 3)=true:=by simp only [bne_iff_ne,ne_eq];omega
 have n13:(kind != 13)=true:=by simp only [bne_iff_ne,ne_eq];omega
 have m1:(kind=1)=False:=by rw [eq_iff_iff,iff_false];omega
 have m2:(kind=2)=False:=by rw [eq_iff_iff,iff_false];omega
 have m3:(kind=3)=False:=by rw [eq_iff_iff,iff_false];omega
 have m4:(kind=4)=False:=by rw [eq_iff_iff,iff_false];omega
 have m5:(kind=5)=False:=by rw [eq_iff_iff,iff_false];omega
 have m6:(kind=6)=False:=by rw [eq_iff_iff,iff_false];omega
 have m7:(kind=7)=False:=by rw [eq_iff_iff,iff_false];omega
 have m8:(kind=8)=False:=by rw [eq_iff_iff,iff_false];omega
 have m9:(kind=9)=False:=by rw [eq_iff_iff,iff_false];omega
 have m10:(kind=10)=False:=by rw [eq_iff_iff,iff_false];omega
 have m11:(kind=11)=False:=by rw [eq_iff_iff,iff_false];omega
 have m12:(kind=12)=False:=by rw [eq_iff_iff,iff_false];omega
 have m13:(kind=13)=False:=by rw [eq_iff_iff,iff_false];omega
 have m14:(kind=14)=False:=by rw [eq_iff_iff,iff_false];omega
 have m15:(kind=15)=False:=by rw [eq_iff_iff,iff_false];omega
 have m16:(kind=16)=False:=by rw [eq_iff_iff,iff_false];omega
 have m17:(kind=17)=False:=by rw [eq_iff_iff,iff_false];omega
 have m18:(kind=18)=False:=by rw [eq_iff_iff,iff_false];omega
 have m19:(kind=19)=False:=by rw [eq_iff_iff,iff_false];omega
 have g:yw p.nodes ⟨kind,at_,n,s,kids,pats⟩ nb=false:=by
  have g:xV p.nodes ⟨kind,at_,n,s,kids,pats⟩ nb=false:=by
   unfold xV;simp only [m1,m2,m3,m4,m5,m6,m7,m8,m9,m10,m11,m12,m13,m14,m15,m16,m17,m18,m19,or_self,if_false];rcases hkd with q|q
   .rw [decide_eq_false (by omega:¬ 1<=kind)];rfl
   .rw [decide_eq_false (by omega:¬ kind<=19)];simp
  unfold yw;rw [g];simp
 rw [g];refine FI PM Tryz.func97 Tryz.ntmps97 [(16,10,[],[],(lin [] [0,1,2,3,4,5,6,7,8,9])),(18,3,[],[],(lin [] [0,1,2])),(20,17,[],[],(lin [] [0,1,2,3,4,5,6,7,8,9,10,11,12,13,14,15,16]))] rfl rfl ?_
 (have hWf:=w10 @MNode.enc_eq @MProgram.enc_eq @ha @hm @e1 @e2 @e3 @e4 @e5 (ai @e6<|ai @e7<|ai @e8<|ai @e9<|ai @e10<|ai @e11<|ai @e12<|ai @e13<|ai @e14<|ai @e15<|ai @e16<|ai @e17<|ai @e18<|ai @e19<|ai @n1<|ai @n3<|@n13);repeat' (first|refine zS ?_|refine zI ?_ ?_|((with_reducible apply xc);refine zG (ym _) ?_)|((with_reducible apply xj);refine xg (ym _) ?_)|exact zF0|refine zD fun hb=>?_|exact zC|refine zT ?_|fail))
theorem c_nodeOk(p:MProgram)(x:MNode)(ho:x.ok)(hs:x.pats.length<=1048576)(hkl:x.kids.length<=1048576)(f:FuncId)(caps:List D)(hm:PM.md f=[])(nb:Bool)(hf:FT f (.ag x.enc::caps) (fun r _=>r=.s (.bool nb)))(hk:∀ h:0<x.kids.length,∃ q:Nat,x.kids[0]=(q:Int)/\q<p.nodes.length) :
  FT 97 [.ag p.enc,.ag x.enc,.fn f caps] (fun r _=>r=.s (.bool (yw p.nodes x nb))):=by
 obtain ⟨kind,at_,n,s,kids,pats⟩:=x;obtain ⟨o1,o2,o3,o4,o5,o6⟩:=ho;have hsz:s.size<=maxLen:=o4
 by_cases hkd:kind<1\/19<kind
 .exact nodeOk_X p kind hkd at_ n s kids pats hs hsz f caps hm nb hf
 rcases (show kind=1\/kind=2\/kind=3\/kind=4\/kind=5\/kind=6\/kind=7\/kind=8\/kind=9\/kind=10\/kind=11\/kind=12\/kind=13\/kind=14\/kind=15\/kind=16\/kind=17\/kind=18\/kind=19 by omega) with rfl|rfl|rfl|rfl|rfl|rfl|rfl|rfl|rfl|rfl|rfl|rfl|rfl|rfl|rfl|rfl|rfl|rfl|rfl
 .exact Un p 1 (.inl ⟨rfl,by decide⟩) at_ n s kids pats hs hsz f caps hm nb hf
 .exact Un p 2 (.inr (.inl ⟨rfl,by decide⟩)) at_ n s kids pats hs hsz f caps hm nb hf
 .exact Un p 3 (.inr (.inr (⟨rfl,by decide⟩))) at_ n s kids pats hs hsz f caps hm nb hf
 .cases kids with
  | nil=>exact nodeOk_4N p at_ n s pats hs hsz f caps hm nb hf
  | cons z l=>
   obtain ⟨q,hz,hq⟩:=hk (by simp)
   have hz:z=(q:Int):=hz;subst hz;exact nodeOk_4C p at_ n s q l hq (by simp at hkl;omega) pats hs hsz f caps hm nb hf
 .exact Uo p 5 (.inl ⟨rfl,by decide⟩) at_ n s kids pats hs hsz f caps hm nb hf
 .exact Up p 6 (.inl ⟨rfl,by decide⟩) at_ n s kids pats hs hsz f caps hm nb hf
 .exact Uo p 7 (.inr (.inl ⟨rfl,by decide⟩)) at_ n s kids pats hs hsz f caps hm nb hf
 .cases kids with
  | nil=>exact nodeOk_8N p at_ n s pats hs hsz f caps hm nb hf
  | cons z l=>
   obtain ⟨q,hz,hq⟩:=hk (by simp)
   have hz:z=(q:Int):=hz;subst hz;exact nodeOk_8C p at_ n s q l hq (by simp at hkl;omega) pats hs hsz f caps hm nb hf
 .exact Up p 9 (.inr (.inl ⟨rfl,by decide⟩)) at_ n s kids pats hs hsz f caps hm nb hf
 .exact Up p 10 (.inr (.inr (⟨rfl,by decide⟩))) at_ n s kids pats hs hsz f caps hm nb hf
 .exact Uq p 11 (.inl ⟨rfl,by decide⟩) at_ n s kids pats hs hsz f caps hm nb hf
 .exact Uq p 12 (.inr (.inl ⟨rfl,by decide⟩)) at_ n s kids pats hs hsz f caps hm nb hf
 .exact Uq p 13 (.inr (.inr (⟨rfl,by decide⟩))) at_ n s kids pats hs hsz f caps hm nb hf
 .exact Ur p 14 (.inl ⟨rfl,by decide⟩) at_ n s kids pats hs hsz f caps hm nb hf
 .exact Uo p 15 (.inr (.inr (⟨rfl,by decide⟩))) at_ n s kids pats hs hsz f caps hm nb hf
 .exact Ur p 16 (.inr (.inl ⟨rfl,by decide⟩)) at_ n s kids pats hs hsz f caps hm nb hf
 .exact Ur p 17 (.inr (.inr (⟨rfl,by decide⟩))) at_ n s kids pats hs hsz f caps hm nb hf
 .exact xap p 18 (.inl ⟨rfl,by decide⟩) at_ n s kids pats hs hsz f caps hm nb hf
 .exact xap p 19 (.inr (⟨rfl,by decide⟩)) at_ n s kids pats hs hsz f caps hm nb hf
theorem xX{nodes:List MNode}{x:MNode}:x9 nodes x=true ↔ inB nodes x.kids=true/\0<=x.at_/\(arI x.kind<0\/(x.kids.length:Int)=arI x.kind)/\(x.kind=13\/(x.pats.length:Int)=0)/\(x.kind=1\/x.kind=3\/x.n=0)/\xV nodes x (yg x)=true/\(x.pats.all fun q=>patM q.nodes)=true:=by
 unfold x9 yw;simp only [Bool.and_eq_true,Bool.or_eq_true,decide_eq_true_eq]
 constructor
 .rintro ⟨⟨h1,⟨⟨⟨h2,h3⟩,h4⟩,h5⟩,h6⟩,h7⟩
  exact ⟨h1,h2,h3,h4.imp id (fun q=>by omega),by omega,h6,h7⟩
 .rintro ⟨h1,h2,h3,h4,h5,h6,h7⟩
  exact ⟨⟨h1,⟨⟨⟨h2,h3⟩,h4.imp id (fun q=>by omega)⟩,by omega⟩,h6⟩,h7⟩
theorem pats0{l:List MPat}(h:(l.length:Int)=0):(l.all fun q=>patM q.nodes)=true:=by
 have:l=[]:=List.eq_nil_of_length_eq_zero (by omega)
 rw [this];rfl
theorem uB{nodes:List MNode}{l:List Int}{k:Nat}(h:k<l.length)(hb:l[k]<0\/(nodes.length:Int)<=l[k]):inB nodes l=false:=by
 refine zP h ?_;rcases hb with q|q
 .rw [decide_eq_false (by omega)];rfl
 .rw [decide_eq_false (by omega:¬ l[k]<(nodes.length:Int))];simp
theorem uC{nodes:List MNode}{x:Int}(h1:0<=x)(h2:x<(nodes.length:Int)):(decide (0<=x)&&decide (x<(nodes.length:Int)))=true:=by
 rw [decide_eq_true h1,decide_eq_true h2];rfl
theorem Z4(p:MProgram)(kind:Int)(hkd:(kind=1/\arI kind=0)\/(kind=2/\arI kind=0)\/(kind=3/\arI kind=0))(at_ n:Int)(s:ByteArray)(kids:List Int)(pats:List MPat)(hkl:kids.length<=1048576)(hpl:pats.length<=1048576)(hsz:s.size<=maxLen)(hop:∀ q∈pats,q.ok)(hsp:smS MPat.sm pats) :
  FT 49 [.ag p.enc,.ag (MNode.mk kind at_ n s kids pats).enc] (fun r _=>r=.s (.bool (x9 p.nodes ⟨kind,at_,n,s,kids,pats⟩))):=by
 obtain ⟨k0,hk0⟩:∃ k0:Int,k0=kind:=⟨_,rfl⟩;rcases hkd with ⟨rfl,ha⟩|⟨rfl,ha⟩|⟨rfl,ha⟩
 all_goals
  refine FI (PMr [15,24]) Tryz.func49 Tryz.ntmps49 [(15,26,[],[],(lin [] [0,1,2,3,4,5,6,7,8,9,10,11,12,13,14,15,16,17,18,19,20,21,22,23,24,25])),(24,15,[],[],(lin [] [0,1,2,3,4,5,6,7,8,9,10,11,12,13,14])),(26,11,[],[],(lin [] [0,1,2,3,4,5,6,7,8,9,10]))] rfl rfl ?_
  (have hWf:=w3 @MNode.enc_eq @MProgram.enc_eq @ha;repeat' (first|refine zS ?_|refine zI ?_ ?_|exact zF0|refine zD fun hb=>?_|exact zC|refine zT ?_|fail))
  all_goals first
  | (
    (try clear hop hsp)
    (try clear hK)
    refine sB ?_;rw [Bool.eq_iff_iff,xX];have hpa0:=@pats0 pats;simp only [xV,ha,yg] at *
    first|(simp_all;done)|grind|(constructor<;>intro hh<;>grind))
  | (refine xn (fun m σ=>∃ j:Nat,j<=kids.length/\m=kids.length - j/\σ.t 2=.bx 2 0/\σ.t 3=.bx 3 0/\σ.b 2=some (.box [.sl 3 (p.types.map MType.enc),.sl 6 (p.nodes.map MNode.enc)])/\σ.b 3=some (.box [.s (.int .i64 k0),.s (.int .i64 at_),.s (.int .i64 n),.s (.string s),yT kids,.sl 1 (pats.map MPat.enc)]) /\
     σ.t 44=yT kids/\σ.t 45=.s (.int .i64 kids.length)/\σ.t 46=.s (.int .i64 j)/\∀ x∈kids.take j,(decide (0<=x)&&decide (x<(p.nodes.length:Int)))=true) kids.length ⟨0,by omega,by omega,?_⟩ ?_
     .simp only [go_sem,simprocAttr,Int.natCast_zero,hk0]
      all_goals simp
     .rintro m σ ⟨j,hj,rfl,g2,g3,gb2,gb3,g44,g45,g46,hno⟩ K' hK
      by_cases hlt:j<kids.length
      .have hx:=xi iE kids j hlt
       (have hWf:=w10 @hk0 @g2 @g3 @gb2 @gb3 @g44 @g45 @g46 @hx @x5;repeat' (first|refine zS ?_|refine zI ?_ ?_|exact zF0|refine zD fun hb=>?_|exact zC|refine zT ?_|fail))
       .refine sB ?_
        unfold x9;rw [uB hlt hb];rfl
       .refine hK (kids.length - (j+1)) _ (by omega) ⟨j+1,by omega,rfl,?_⟩
        simp only [go_sem,simprocAttr,g2,g3,gb2,gb3,g44,g45,Int.natCast_succ];exact xZ hlt hno (uC (by omega) (by omega))
      .obtain rfl:j=kids.length:=by omega
       have hin:inB p.nodes kids=true:=yp hno;clear hno hK
       (have hWf:=w8 @hk0 @g2 @g3 @gb2 @gb3 @g44 @g45 @g46;repeat' (first|refine zS ?_|refine zI ?_ ?_|((with_reducible apply xc);refine zG (yd _) ?_)|((with_reducible apply xj);refine xg (yd _) ?_)|refine zK (xz s hsz) ?_|refine zK (vi s) ?_|exact zF0|refine zD fun hb=>?_|exact zC|refine zT ?_|fail))
       all_goals
        (try clear hop hsp)
        (try clear hK)
        refine sB ?_;rw [Bool.eq_iff_iff,xX];have hpa0:=@pats0 pats;simp only [xV,ha,yg] at *
        first|(simp_all;done)|grind|(constructor<;>intro hh<;>grind))
theorem Z5(p:MProgram)(kind:Int)(hkd:(kind=5/\arI kind=1)\/(kind=7/\arI kind=2)\/(kind=15/\arI kind=2))(at_ n:Int)(s:ByteArray)(kids:List Int)(pats:List MPat)(hkl:kids.length<=1048576)(hpl:pats.length<=1048576)(hsz:s.size<=maxLen)(hop:∀ q∈pats,q.ok)(hsp:smS MPat.sm pats) :
  FT 49 [.ag p.enc,.ag (MNode.mk kind at_ n s kids pats).enc] (fun r _=>r=.s (.bool (x9 p.nodes ⟨kind,at_,n,s,kids,pats⟩))):=by
 obtain ⟨k0,hk0⟩:∃ k0:Int,k0=kind:=⟨_,rfl⟩;rcases hkd with ⟨rfl,ha⟩|⟨rfl,ha⟩|⟨rfl,ha⟩
 all_goals
  refine FI (PMr [15,24]) Tryz.func49 Tryz.ntmps49 [(15,26,[],[],(lin [] [0,1,2,3,4,5,6,7,8,9,10,11,12,13,14,15,16,17,18,19,20,21,22,23,24,25])),(24,15,[],[],(lin [] [0,1,2,3,4,5,6,7,8,9,10,11,12,13,14])),(26,11,[],[],(lin [] [0,1,2,3,4,5,6,7,8,9,10]))] rfl rfl ?_
  (have hWf:=w3 @MNode.enc_eq @MProgram.enc_eq @ha;repeat' (first|refine zS ?_|refine zI ?_ ?_|exact zF0|refine zD fun hb=>?_|exact zC|refine zT ?_|fail))
  all_goals first
  | (
    (try clear hop hsp)
    (try clear hK)
    refine sB ?_;rw [Bool.eq_iff_iff,xX];have hpa0:=@pats0 pats;simp only [xV,ha,yg] at *
    first|(simp_all;done)|grind|(constructor<;>intro hh<;>grind))
  | (refine xn (fun m σ=>∃ j:Nat,j<=kids.length/\m=kids.length - j/\σ.t 2=.bx 2 0/\σ.t 3=.bx 3 0/\σ.b 2=some (.box [.sl 3 (p.types.map MType.enc),.sl 6 (p.nodes.map MNode.enc)])/\σ.b 3=some (.box [.s (.int .i64 k0),.s (.int .i64 at_),.s (.int .i64 n),.s (.string s),yT kids,.sl 1 (pats.map MPat.enc)]) /\
     σ.t 44=yT kids/\σ.t 45=.s (.int .i64 kids.length)/\σ.t 46=.s (.int .i64 j)/\∀ x∈kids.take j,(decide (0<=x)&&decide (x<(p.nodes.length:Int)))=true) kids.length ⟨0,by omega,by omega,?_⟩ ?_
     .simp only [go_sem,simprocAttr,Int.natCast_zero,hk0]
      all_goals simp
     .rintro m σ ⟨j,hj,rfl,g2,g3,gb2,gb3,g44,g45,g46,hno⟩ K' hK
      by_cases hlt:j<kids.length
      .have hx:=xi iE kids j hlt
       (have hWf:=w10 @hk0 @g2 @g3 @gb2 @gb3 @g44 @g45 @g46 @hx @x5;repeat' (first|refine zS ?_|refine zI ?_ ?_|exact zF0|refine zD fun hb=>?_|exact zC|refine zT ?_|fail))
       .refine sB ?_
        unfold x9;rw [uB hlt hb];rfl
       .refine hK (kids.length - (j+1)) _ (by omega) ⟨j+1,by omega,rfl,?_⟩
        simp only [go_sem,simprocAttr,g2,g3,gb2,gb3,g44,g45,Int.natCast_succ];exact xZ hlt hno (uC (by omega) (by omega))
      .obtain rfl:j=kids.length:=by omega
       have hin:inB p.nodes kids=true:=yp hno;clear hno hK
       (have hWf:=w8 @hk0 @g2 @g3 @gb2 @gb3 @g44 @g45 @g46;repeat' (first|refine zS ?_|refine zI ?_ ?_|((with_reducible apply xc);refine zG (yd _) ?_)|((with_reducible apply xj);refine xg (yd _) ?_)|refine zK (xz s hsz) ?_|refine zK (vi s) ?_|exact zF0|refine zD fun hb=>?_|exact zC|refine zT ?_|fail))
       all_goals
        (try clear hop hsp)
        (try clear hK)
        refine sB ?_;rw [Bool.eq_iff_iff,xX];have hpa0:=@pats0 pats;simp only [xV,ha,yg] at *
        first|(simp_all;done)|grind|(constructor<;>intro hh<;>grind))
theorem Z6(p:MProgram)(kind:Int)(hkd:(kind=6/\arI kind=2)\/(kind=9/\arI kind=3)\/(kind=10/\arI kind=2))(at_ n:Int)(s:ByteArray)(kids:List Int)(pats:List MPat)(hkl:kids.length<=1048576)(hpl:pats.length<=1048576)(hsz:s.size<=maxLen)(hop:∀ q∈pats,q.ok)(hsp:smS MPat.sm pats) :
  FT 49 [.ag p.enc,.ag (MNode.mk kind at_ n s kids pats).enc] (fun r _=>r=.s (.bool (x9 p.nodes ⟨kind,at_,n,s,kids,pats⟩))):=by
 obtain ⟨k0,hk0⟩:∃ k0:Int,k0=kind:=⟨_,rfl⟩;rcases hkd with ⟨rfl,ha⟩|⟨rfl,ha⟩|⟨rfl,ha⟩
 all_goals
  refine FI (PMr [15,24]) Tryz.func49 Tryz.ntmps49 [(15,26,[],[],(lin [] [0,1,2,3,4,5,6,7,8,9,10,11,12,13,14,15,16,17,18,19,20,21,22,23,24,25])),(24,15,[],[],(lin [] [0,1,2,3,4,5,6,7,8,9,10,11,12,13,14])),(26,11,[],[],(lin [] [0,1,2,3,4,5,6,7,8,9,10]))] rfl rfl ?_
  (have hWf:=w3 @MNode.enc_eq @MProgram.enc_eq @ha;repeat' (first|refine zS ?_|refine zI ?_ ?_|exact zF0|refine zD fun hb=>?_|exact zC|refine zT ?_|fail))
  all_goals first
  | (
    (try clear hop hsp)
    (try clear hK)
    refine sB ?_;rw [Bool.eq_iff_iff,xX];have hpa0:=@pats0 pats;simp only [xV,ha,yg] at *
    first|(simp_all;done)|grind|(constructor<;>intro hh<;>grind))
  | (refine xn (fun m σ=>∃ j:Nat,j<=kids.length/\m=kids.length - j/\σ.t 2=.bx 2 0/\σ.t 3=.bx 3 0/\σ.b 2=some (.box [.sl 3 (p.types.map MType.enc),.sl 6 (p.nodes.map MNode.enc)])/\σ.b 3=some (.box [.s (.int .i64 k0),.s (.int .i64 at_),.s (.int .i64 n),.s (.string s),yT kids,.sl 1 (pats.map MPat.enc)]) /\
     σ.t 44=yT kids/\σ.t 45=.s (.int .i64 kids.length)/\σ.t 46=.s (.int .i64 j)/\∀ x∈kids.take j,(decide (0<=x)&&decide (x<(p.nodes.length:Int)))=true) kids.length ⟨0,by omega,by omega,?_⟩ ?_
     .simp only [go_sem,simprocAttr,Int.natCast_zero,hk0]
      all_goals simp
     .rintro m σ ⟨j,hj,rfl,g2,g3,gb2,gb3,g44,g45,g46,hno⟩ K' hK
      by_cases hlt:j<kids.length
      .have hx:=xi iE kids j hlt
       (have hWf:=w10 @hk0 @g2 @g3 @gb2 @gb3 @g44 @g45 @g46 @hx @x5;repeat' (first|refine zS ?_|refine zI ?_ ?_|exact zF0|refine zD fun hb=>?_|exact zC|refine zT ?_|fail))
       .refine sB ?_
        unfold x9;rw [uB hlt hb];rfl
       .refine hK (kids.length - (j+1)) _ (by omega) ⟨j+1,by omega,rfl,?_⟩
        simp only [go_sem,simprocAttr,g2,g3,gb2,gb3,g44,g45,Int.natCast_succ];exact xZ hlt hno (uC (by omega) (by omega))
      .obtain rfl:j=kids.length:=by omega
       have hin:inB p.nodes kids=true:=yp hno;clear hno hK
       (have hWf:=w8 @hk0 @g2 @g3 @gb2 @gb3 @g44 @g45 @g46;repeat' (first|refine zS ?_|refine zI ?_ ?_|((with_reducible apply xc);refine zG (yd _) ?_)|((with_reducible apply xj);refine xg (yd _) ?_)|refine zK (xz s hsz) ?_|refine zK (vi s) ?_|exact zF0|refine zD fun hb=>?_|exact zC|refine zT ?_|fail))
       all_goals
        (try clear hop hsp)
        (try clear hK)
        refine sB ?_;rw [Bool.eq_iff_iff,xX];have hpa0:=@pats0 pats;simp only [xV,ha,yg] at *
        first|(simp_all;done)|grind|(constructor<;>intro hh<;>grind))
theorem Z7(p:MProgram)(kind:Int)(hkd:(kind=11/\arI kind=2)\/(kind=12/\arI kind=0)\/(kind=14/\arI kind=1))(at_ n:Int)(s:ByteArray)(kids:List Int)(pats:List MPat)(hkl:kids.length<=1048576)(hpl:pats.length<=1048576)(hsz:s.size<=maxLen)(hop:∀ q∈pats,q.ok)(hsp:smS MPat.sm pats) :
  FT 49 [.ag p.enc,.ag (MNode.mk kind at_ n s kids pats).enc] (fun r _=>r=.s (.bool (x9 p.nodes ⟨kind,at_,n,s,kids,pats⟩))):=by
 obtain ⟨k0,hk0⟩:∃ k0:Int,k0=kind:=⟨_,rfl⟩;rcases hkd with ⟨rfl,ha⟩|⟨rfl,ha⟩|⟨rfl,ha⟩
 all_goals
  refine FI (PMr [15,24]) Tryz.func49 Tryz.ntmps49 [(15,26,[],[],(lin [] [0,1,2,3,4,5,6,7,8,9,10,11,12,13,14,15,16,17,18,19,20,21,22,23,24,25])),(24,15,[],[],(lin [] [0,1,2,3,4,5,6,7,8,9,10,11,12,13,14])),(26,11,[],[],(lin [] [0,1,2,3,4,5,6,7,8,9,10]))] rfl rfl ?_
  (have hWf:=w3 @MNode.enc_eq @MProgram.enc_eq @ha;repeat' (first|refine zS ?_|refine zI ?_ ?_|exact zF0|refine zD fun hb=>?_|exact zC|refine zT ?_|fail))
  all_goals first
  | (
    (try clear hop hsp)
    (try clear hK)
    refine sB ?_;rw [Bool.eq_iff_iff,xX];have hpa0:=@pats0 pats;simp only [xV,ha,yg] at *
    first|(simp_all;done)|grind|(constructor<;>intro hh<;>grind))
  | (refine xn (fun m σ=>∃ j:Nat,j<=kids.length/\m=kids.length - j/\σ.t 2=.bx 2 0/\σ.t 3=.bx 3 0/\σ.b 2=some (.box [.sl 3 (p.types.map MType.enc),.sl 6 (p.nodes.map MNode.enc)])/\σ.b 3=some (.box [.s (.int .i64 k0),.s (.int .i64 at_),.s (.int .i64 n),.s (.string s),yT kids,.sl 1 (pats.map MPat.enc)]) /\
     σ.t 44=yT kids/\σ.t 45=.s (.int .i64 kids.length)/\σ.t 46=.s (.int .i64 j)/\∀ x∈kids.take j,(decide (0<=x)&&decide (x<(p.nodes.length:Int)))=true) kids.length ⟨0,by omega,by omega,?_⟩ ?_
     .simp only [go_sem,simprocAttr,Int.natCast_zero,hk0]
      all_goals simp
     .rintro m σ ⟨j,hj,rfl,g2,g3,gb2,gb3,g44,g45,g46,hno⟩ K' hK
      by_cases hlt:j<kids.length
      .have hx:=xi iE kids j hlt
       (have hWf:=w10 @hk0 @g2 @g3 @gb2 @gb3 @g44 @g45 @g46 @hx @x5;repeat' (first|refine zS ?_|refine zI ?_ ?_|exact zF0|refine zD fun hb=>?_|exact zC|refine zT ?_|fail))
       .refine sB ?_
        unfold x9;rw [uB hlt hb];rfl
       .refine hK (kids.length - (j+1)) _ (by omega) ⟨j+1,by omega,rfl,?_⟩
        simp only [go_sem,simprocAttr,g2,g3,gb2,gb3,g44,g45,Int.natCast_succ];exact xZ hlt hno (uC (by omega) (by omega))
      .obtain rfl:j=kids.length:=by omega
       have hin:inB p.nodes kids=true:=yp hno;clear hno hK
       (have hWf:=w8 @hk0 @g2 @g3 @gb2 @gb3 @g44 @g45 @g46;repeat' (first|refine zS ?_|refine zI ?_ ?_|((with_reducible apply xc);refine zG (yd _) ?_)|((with_reducible apply xj);refine xg (yd _) ?_)|refine zK (xz s hsz) ?_|refine zK (vi s) ?_|exact zF0|refine zD fun hb=>?_|exact zC|refine zT ?_|fail))
       all_goals
        (try clear hop hsp)
        (try clear hK)
        refine sB ?_;rw [Bool.eq_iff_iff,xX];have hpa0:=@pats0 pats;simp only [xV,ha,yg] at *
        first|(simp_all;done)|grind|(constructor<;>intro hh<;>grind))
theorem Qg(p:MProgram)(kind:Int)(hkd:(kind=16/\arI kind=1)\/(kind=17/\arI kind=1))(at_ n:Int)(s:ByteArray)(kids:List Int)(pats:List MPat)(hkl:kids.length<=1048576)(hpl:pats.length<=1048576)(hsz:s.size<=maxLen)(hop:∀ q∈pats,q.ok)(hsp:smS MPat.sm pats) :
  FT 49 [.ag p.enc,.ag (MNode.mk kind at_ n s kids pats).enc] (fun r _=>r=.s (.bool (x9 p.nodes ⟨kind,at_,n,s,kids,pats⟩))):=by
 obtain ⟨k0,hk0⟩:∃ k0:Int,k0=kind:=⟨_,rfl⟩;rcases hkd with ⟨rfl,ha⟩|⟨rfl,ha⟩
 all_goals
  refine FI (PMr [15,24]) Tryz.func49 Tryz.ntmps49 [(15,26,[],[],(lin [] [0,1,2,3,4,5,6,7,8,9,10,11,12,13,14,15,16,17,18,19,20,21,22,23,24,25])),(24,15,[],[],(lin [] [0,1,2,3,4,5,6,7,8,9,10,11,12,13,14])),(26,11,[],[],(lin [] [0,1,2,3,4,5,6,7,8,9,10]))] rfl rfl ?_
  (have hWf:=w3 @MNode.enc_eq @MProgram.enc_eq @ha;repeat' (first|refine zS ?_|refine zI ?_ ?_|exact zF0|refine zD fun hb=>?_|exact zC|refine zT ?_|fail))
  all_goals first
  | (
    (try clear hop hsp)
    (try clear hK)
    refine sB ?_;rw [Bool.eq_iff_iff,xX];have hpa0:=@pats0 pats;simp only [xV,ha,yg] at *
    first|(simp_all;done)|grind|(constructor<;>intro hh<;>grind))
  | (refine xn (fun m σ=>∃ j:Nat,j<=kids.length/\m=kids.length - j/\σ.t 2=.bx 2 0/\σ.t 3=.bx 3 0/\σ.b 2=some (.box [.sl 3 (p.types.map MType.enc),.sl 6 (p.nodes.map MNode.enc)])/\σ.b 3=some (.box [.s (.int .i64 k0),.s (.int .i64 at_),.s (.int .i64 n),.s (.string s),yT kids,.sl 1 (pats.map MPat.enc)]) /\
     σ.t 44=yT kids/\σ.t 45=.s (.int .i64 kids.length)/\σ.t 46=.s (.int .i64 j)/\∀ x∈kids.take j,(decide (0<=x)&&decide (x<(p.nodes.length:Int)))=true) kids.length ⟨0,by omega,by omega,?_⟩ ?_
     .simp only [go_sem,simprocAttr,Int.natCast_zero,hk0]
      all_goals simp
     .rintro m σ ⟨j,hj,rfl,g2,g3,gb2,gb3,g44,g45,g46,hno⟩ K' hK
      by_cases hlt:j<kids.length
      .have hx:=xi iE kids j hlt
       (have hWf:=w10 @hk0 @g2 @g3 @gb2 @gb3 @g44 @g45 @g46 @hx @x5;repeat' (first|refine zS ?_|refine zI ?_ ?_|exact zF0|refine zD fun hb=>?_|exact zC|refine zT ?_|fail))
       .refine sB ?_
        unfold x9;rw [uB hlt hb];rfl
       .refine hK (kids.length - (j+1)) _ (by omega) ⟨j+1,by omega,rfl,?_⟩
        simp only [go_sem,simprocAttr,g2,g3,gb2,gb3,g44,g45,Int.natCast_succ];exact xZ hlt hno (uC (by omega) (by omega))
      .obtain rfl:j=kids.length:=by omega
       have hin:inB p.nodes kids=true:=yp hno;clear hno hK
       (have hWf:=w8 @hk0 @g2 @g3 @gb2 @gb3 @g44 @g45 @g46;repeat' (first|refine zS ?_|refine zI ?_ ?_|((with_reducible apply xc);refine zG (yd _) ?_)|((with_reducible apply xj);refine xg (yd _) ?_)|refine zK (xz s hsz) ?_|refine zK (vi s) ?_|exact zF0|refine zD fun hb=>?_|exact zC|refine zT ?_|fail))
       all_goals
        (try clear hop hsp)
        (try clear hK)
        refine sB ?_;rw [Bool.eq_iff_iff,xX];have hpa0:=@pats0 pats;simp only [xV,ha,yg] at *
        first|(simp_all;done)|grind|(constructor<;>intro hh<;>grind))
theorem Qh(p:MProgram)(kind:Int)(hkd:(kind=18/\arI kind=2)\/(kind=19/\arI kind=2))(at_ n:Int)(s:ByteArray)(kids:List Int)(pats:List MPat)(hkl:kids.length<=1048576)(hpl:pats.length<=1048576)(hsz:s.size<=maxLen)(hop:∀ q∈pats,q.ok)(hsp:smS MPat.sm pats) :
  FT 49 [.ag p.enc,.ag (MNode.mk kind at_ n s kids pats).enc] (fun r _=>r=.s (.bool (x9 p.nodes ⟨kind,at_,n,s,kids,pats⟩))):=by
 obtain ⟨k0,hk0⟩:∃ k0:Int,k0=kind:=⟨_,rfl⟩;rcases hkd with ⟨rfl,ha⟩|⟨rfl,ha⟩
 all_goals
  refine FI (PMr [15,24]) Tryz.func49 Tryz.ntmps49 [(15,26,[],[],(lin [] [0,1,2,3,4,5,6,7,8,9,10,11,12,13,14,15,16,17,18,19,20,21,22,23,24,25])),(24,15,[],[],(lin [] [0,1,2,3,4,5,6,7,8,9,10,11,12,13,14])),(26,11,[],[],(lin [] [0,1,2,3,4,5,6,7,8,9,10]))] rfl rfl ?_
  (have hWf:=w3 @MNode.enc_eq @MProgram.enc_eq @ha;repeat' (first|refine zS ?_|refine zI ?_ ?_|exact zF0|refine zD fun hb=>?_|exact zC|refine zT ?_|fail))
  all_goals first
  | (
    (try clear hop hsp)
    (try clear hK)
    refine sB ?_;rw [Bool.eq_iff_iff,xX];have hpa0:=@pats0 pats;simp only [xV,ha,yg] at *
    first|(simp_all;done)|grind|(constructor<;>intro hh<;>grind))
  | (refine xn (fun m σ=>∃ j:Nat,j<=kids.length/\m=kids.length - j/\σ.t 2=.bx 2 0/\σ.t 3=.bx 3 0/\σ.b 2=some (.box [.sl 3 (p.types.map MType.enc),.sl 6 (p.nodes.map MNode.enc)])/\σ.b 3=some (.box [.s (.int .i64 k0),.s (.int .i64 at_),.s (.int .i64 n),.s (.string s),yT kids,.sl 1 (pats.map MPat.enc)]) /\
     σ.t 44=yT kids/\σ.t 45=.s (.int .i64 kids.length)/\σ.t 46=.s (.int .i64 j)/\∀ x∈kids.take j,(decide (0<=x)&&decide (x<(p.nodes.length:Int)))=true) kids.length ⟨0,by omega,by omega,?_⟩ ?_
     .simp only [go_sem,simprocAttr,Int.natCast_zero,hk0]
      all_goals simp
     .rintro m σ ⟨j,hj,rfl,g2,g3,gb2,gb3,g44,g45,g46,hno⟩ K' hK
      by_cases hlt:j<kids.length
      .have hx:=xi iE kids j hlt
       (have hWf:=w10 @hk0 @g2 @g3 @gb2 @gb3 @g44 @g45 @g46 @hx @x5;repeat' (first|refine zS ?_|refine zI ?_ ?_|exact zF0|refine zD fun hb=>?_|exact zC|refine zT ?_|fail))
       .refine sB ?_
        unfold x9;rw [uB hlt hb];rfl
       .refine hK (kids.length - (j+1)) _ (by omega) ⟨j+1,by omega,rfl,?_⟩
        simp only [go_sem,simprocAttr,g2,g3,gb2,gb3,g44,g45,Int.natCast_succ];exact xZ hlt hno (uC (by omega) (by omega))
      .obtain rfl:j=kids.length:=by omega
       have hin:inB p.nodes kids=true:=yp hno;clear hno hK
       (have hWf:=w8 @hk0 @g2 @g3 @gb2 @gb3 @g44 @g45 @g46;repeat' (first|refine zS ?_|refine zI ?_ ?_|((with_reducible apply xc);refine zG (yd _) ?_)|((with_reducible apply xj);refine xg (yd _) ?_)|refine zK (xz s hsz) ?_|refine zK (vi s) ?_|exact zF0|refine zD fun hb=>?_|exact zC|refine zT ?_|fail))
       all_goals
        (try clear hop hsp)
        (try clear hK)
        refine sB ?_;rw [Bool.eq_iff_iff,xX];have hpa0:=@pats0 pats;simp only [xV,ha,yg] at *
        first|(simp_all;done)|grind|(constructor<;>intro hh<;>grind))
theorem l04Node_8(p:MProgram)(kind:Int)(hkd:(kind=8/\arI kind=2))(at_ n:Int)(s:ByteArray)(kids:List Int)(pats:List MPat)(hkl:kids.length<=1048576)(hpl:pats.length<=1048576)(hsz:s.size<=maxLen)(hop:∀ q∈pats,q.ok)(hsp:smS MPat.sm pats) :
  FT 49 [.ag p.enc,.ag (MNode.mk kind at_ n s kids pats).enc] (fun r _=>r=.s (.bool (x9 p.nodes ⟨kind,at_,n,s,kids,pats⟩))):=by
 obtain ⟨k0,hk0⟩:∃ k0:Int,k0=kind:=⟨_,rfl⟩;rcases hkd with ⟨rfl,ha⟩
 all_goals
  refine FI (PMr [15,24]) Tryz.func49 Tryz.ntmps49 [(15,26,[],[],(lin [] [0,1,2,3,4,5,6,7,8,9,10,11,12,13,14,15,16,17,18,19,20,21,22,23,24,25])),(24,15,[],[],(lin [] [0,1,2,3,4,5,6,7,8,9,10,11,12,13,14])),(26,11,[],[],(lin [] [0,1,2,3,4,5,6,7,8,9,10]))] rfl rfl ?_
  (have hWf:=w3 @MNode.enc_eq @MProgram.enc_eq @ha;repeat' (first|refine zS ?_|refine zI ?_ ?_|exact zF0|refine zD fun hb=>?_|exact zC|refine zT ?_|fail))
  all_goals first
  | (
    (try clear hop hsp)
    (try clear hK)
    refine sB ?_;rw [Bool.eq_iff_iff,xX];have hpa0:=@pats0 pats;simp only [xV,ha,yg] at *
    first|(simp_all;done)|grind|(constructor<;>intro hh<;>grind))
  | (refine xn (fun m σ=>∃ j:Nat,j<=kids.length/\m=kids.length - j/\σ.t 2=.bx 2 0/\σ.t 3=.bx 3 0/\σ.b 2=some (.box [.sl 3 (p.types.map MType.enc),.sl 6 (p.nodes.map MNode.enc)])/\σ.b 3=some (.box [.s (.int .i64 k0),.s (.int .i64 at_),.s (.int .i64 n),.s (.string s),yT kids,.sl 1 (pats.map MPat.enc)]) /\
     σ.t 44=yT kids/\σ.t 45=.s (.int .i64 kids.length)/\σ.t 46=.s (.int .i64 j)/\∀ x∈kids.take j,(decide (0<=x)&&decide (x<(p.nodes.length:Int)))=true) kids.length ⟨0,by omega,by omega,?_⟩ ?_
     .simp only [go_sem,simprocAttr,Int.natCast_zero,hk0]
      all_goals simp
     .rintro m σ ⟨j,hj,rfl,g2,g3,gb2,gb3,g44,g45,g46,hno⟩ K' hK
      by_cases hlt:j<kids.length
      .have hx:=xi iE kids j hlt
       (have hWf:=w10 @hk0 @g2 @g3 @gb2 @gb3 @g44 @g45 @g46 @hx @x5;repeat' (first|refine zS ?_|refine zI ?_ ?_|exact zF0|refine zD fun hb=>?_|exact zC|refine zT ?_|fail))
       .refine sB ?_
        unfold x9;rw [uB hlt hb];rfl
       .refine hK (kids.length - (j+1)) _ (by omega) ⟨j+1,by omega,rfl,?_⟩
        simp only [go_sem,simprocAttr,g2,g3,gb2,gb3,g44,g45,Int.natCast_succ];exact xZ hlt hno (uC (by omega) (by omega))
      .obtain rfl:j=kids.length:=by omega
       have hin:inB p.nodes kids=true:=yp hno;clear hno hK;cases kids with
       | nil=>
        have hin:inB p.nodes []=true:=rfl
        (have hWf:=w8 @hk0 @g2 @g3 @gb2 @gb3 @g44 @g45 @g46;repeat' (first|refine zS ?_|refine zI ?_ ?_|((with_reducible apply xc);refine zG (yd _) ?_)|((with_reducible apply xj);refine xg (yd _) ?_)|refine zK (xz s hsz) ?_|exact zF0|refine zD fun hb=>?_|exact zC|refine zT ?_|fail))
        all_goals
         (try clear hop hsp)
         (try clear hK)
         refine sB ?_;rw [Bool.eq_iff_iff,xX];have hpa0:=@pats0 pats;simp only [xV,ha,yg] at *
         first|(simp_all;done)|grind|(constructor<;>intro hh<;>grind)
       | cons z l=>
        have hz:=List.all_eq_true.1 hin z (by simp)
        simp only [Bool.and_eq_true,decide_eq_true_eq] at hz
        obtain ⟨q,rfl⟩:∃ q:Nat,z=(q:Int):=⟨z.toNat,by omega⟩
        have hq:q<p.nodes.length:=by omega
        have hn:=xi MNode.enc p.nodes q hq;have hne:=MNode.enc_eq p.nodes[q];have hkk:=fun kd=>YP (nodes:=p.nodes) (l:=(q:Int)::l) (by simp) hq rfl kd
        have h1k:(((l.length+1:Nat):Int)==1)=decide (l.length+1=1):=by rw [Bool.eq_iff_iff];simp only [beq_iff_eq,decide_eq_true_eq];omega
        cases h2:(((l.length+1:Nat):Int) != 2)
        all_goals
         (have hWf:=w10 @hk0 @g2 @g3 @gb2 @gb3 @g44 @g45 @g46 @hn (ai @hne<|ai @x5<|@h2);repeat' (first|refine zS ?_|refine zI ?_ ?_|((with_reducible apply xc);refine zG (yd _) ?_)|((with_reducible apply xj);refine xg (yd _) ?_)|refine zK (xz s hsz) ?_|exact zF0|refine zD fun hb=>?_|exact zC|refine zT ?_|fail))
         all_goals
          (try clear hop hsp)
          (try clear hK)
          refine sB ?_;rw [Bool.eq_iff_iff,xX];have hpa0:=@pats0 pats;simp only [xV,ha,yg,hkk,List.length_cons] at *
          first|(simp_all;done)|grind|(constructor<;>intro hh<;>grind))
theorem l04Node_4(p:MProgram)(kind:Int)(hkd:(kind=4/\arI kind = -1))(at_ n:Int)(s:ByteArray)(kids:List Int)(pats:List MPat)(hkl:kids.length<=1048576)(hpl:pats.length<=1048576)(hsz:s.size<=maxLen)(hop:∀ q∈pats,q.ok)(hsp:smS MPat.sm pats) :
  FT 49 [.ag p.enc,.ag (MNode.mk kind at_ n s kids pats).enc] (fun r _=>r=.s (.bool (x9 p.nodes ⟨kind,at_,n,s,kids,pats⟩))):=by
 obtain ⟨k0,hk0⟩:∃ k0:Int,k0=kind:=⟨_,rfl⟩;rcases hkd with ⟨rfl,ha⟩
 all_goals
  refine FI (PMr [15,24]) Tryz.func49 Tryz.ntmps49 [(15,26,[],[],(lin [] [0,1,2,3,4,5,6,7,8,9,10,11,12,13,14,15,16,17,18,19,20,21,22,23,24,25])),(24,15,[],[],(lin [] [0,1,2,3,4,5,6,7,8,9,10,11,12,13,14])),(26,11,[],[],(lin [] [0,1,2,3,4,5,6,7,8,9,10]))] rfl rfl ?_
  (have hWf:=w3 @MNode.enc_eq @MProgram.enc_eq @ha;repeat' (first|refine zS ?_|refine zI ?_ ?_|exact zF0|refine zD fun hb=>?_|exact zC|refine zT ?_|fail))
  all_goals first
  | (
    (try clear hop hsp)
    (try clear hK)
    refine sB ?_;rw [Bool.eq_iff_iff,xX];have hpa0:=@pats0 pats;simp only [xV,ha,yg] at *
    first|(simp_all;done)|grind|(constructor<;>intro hh<;>grind))
  | (refine xn (fun m σ=>∃ j:Nat,j<=kids.length/\m=kids.length - j/\σ.t 2=.bx 2 0/\σ.t 3=.bx 3 0/\σ.b 2=some (.box [.sl 3 (p.types.map MType.enc),.sl 6 (p.nodes.map MNode.enc)])/\σ.b 3=some (.box [.s (.int .i64 k0),.s (.int .i64 at_),.s (.int .i64 n),.s (.string s),yT kids,.sl 1 (pats.map MPat.enc)]) /\
     σ.t 44=yT kids/\σ.t 45=.s (.int .i64 kids.length)/\σ.t 46=.s (.int .i64 j)/\∀ x∈kids.take j,(decide (0<=x)&&decide (x<(p.nodes.length:Int)))=true) kids.length ⟨0,by omega,by omega,?_⟩ ?_
     .simp only [go_sem,simprocAttr,Int.natCast_zero,hk0]
      all_goals simp
     .rintro m σ ⟨j,hj,rfl,g2,g3,gb2,gb3,g44,g45,g46,hno⟩ K' hK
      by_cases hlt:j<kids.length
      .have hx:=xi iE kids j hlt
       (have hWf:=w10 @hk0 @g2 @g3 @gb2 @gb3 @g44 @g45 @g46 @hx @x5;repeat' (first|refine zS ?_|refine zI ?_ ?_|exact zF0|refine zD fun hb=>?_|exact zC|refine zT ?_|fail))
       .refine sB ?_
        unfold x9;rw [uB hlt hb];rfl
       .refine hK (kids.length - (j+1)) _ (by omega) ⟨j+1,by omega,rfl,?_⟩
        simp only [go_sem,simprocAttr,g2,g3,gb2,gb3,g44,g45,Int.natCast_succ];exact xZ hlt hno (uC (by omega) (by omega))
      .obtain rfl:j=kids.length:=by omega
       have hin:inB p.nodes kids=true:=yp hno;clear hno hK;cases kids with
       | nil=>
        have hin:inB p.nodes []=true:=rfl;cases hp0:((pats.length:Int)==0)
        all_goals
         (have hWf:=w9 @hk0 @g2 @g3 @gb2 @gb3 @g44 @g45 @g46 @hp0;repeat' (first|refine zS ?_|refine zI ?_ ?_|((with_reducible apply xc);refine zG (yy s hsz 0 _) ?_)|((with_reducible apply xj);refine xg (yy s hsz 0 _) ?_)|exact zF0|refine zD fun hb=>?_|exact zC|refine zT ?_|fail))
         all_goals
          (try clear hop hsp)
          (try clear hK)
          refine sB ?_;rw [Bool.eq_iff_iff,xX];have hpa0:=@pats0 pats;simp only [xV,ha,yg] at *
          first|(simp_all;done)|grind|(constructor<;>intro hh<;>grind)
       | cons z l=>
        have hz:=List.all_eq_true.1 hin z (by simp)
        simp only [Bool.and_eq_true,decide_eq_true_eq] at hz
        obtain ⟨q,rfl⟩:∃ q:Nat,z=(q:Int):=⟨z.toNat,by omega⟩
        have hq:q<p.nodes.length:=by omega
        have hn:=xi MNode.enc p.nodes q hq;have hne:=MNode.enc_eq p.nodes[q];have hkk:=fun kd=>YP (nodes:=p.nodes) (l:=(q:Int)::l) (by simp) hq rfl kd
        have h1k:(((l.length+1:Nat):Int)==1)=decide (l.length+1=1):=by rw [Bool.eq_iff_iff];simp only [beq_iff_eq,decide_eq_true_eq];omega
        cases hp0:((pats.length:Int)==0)
        all_goals
         cases h1:(((l.length+1:Nat):Int)==1)
         all_goals
          (have hWf:=w10 @hk0 @g2 @g3 @gb2 @gb3 @g44 @g45 @g46 @hn (ai @hne<|ai @x5<|ai @hp0<|@h1);repeat' (first|refine zS ?_|refine zI ?_ ?_|((with_reducible apply xc);refine zG (yy s hsz (l.length+1) _) ?_)|((with_reducible apply xj);refine xg (yy s hsz (l.length+1) _) ?_)|exact zF0|refine zD fun hb=>?_|exact zC|refine zT ?_|fail))
          all_goals
           (try clear hop hsp)
           (try clear hK)
           refine sB ?_;rw [Bool.eq_iff_iff,xX];have hpa0:=@pats0 pats;simp only [xV,ha,yg,hkk,List.length_cons,h1k] at *
           first|(simp_all;done)|grind|(constructor<;>intro hh<;>grind))
theorem xbT(p:MProgram)(kind:Int)(hkd:(kind=13/\arI kind = -1))(at_ n:Int)(s:ByteArray)(kids:List Int)(pats:List MPat)(hkl:kids.length<=1048576)(hpl:pats.length<=1048576)(hsz:s.size<=maxLen)(hop:∀ q∈pats,q.ok)(hsp:smS MPat.sm pats) :
  FT 49 [.ag p.enc,.ag (MNode.mk kind at_ n s kids pats).enc] (fun r _=>r=.s (.bool (x9 p.nodes ⟨kind,at_,n,s,kids,pats⟩))):=by
 obtain ⟨k0,hk0⟩:∃ k0:Int,k0=kind:=⟨_,rfl⟩;rcases hkd with ⟨rfl,ha⟩
 all_goals
  refine FI (PMr [15,24]) Tryz.func49 Tryz.ntmps49 [(15,26,[],[],(lin [] [0,1,2,3,4,5,6,7,8,9,10,11,12,13,14,15,16,17,18,19,20,21,22,23,24,25])),(24,15,[],[],(lin [] [0,1,2,3,4,5,6,7,8,9,10,11,12,13,14])),(26,11,[],[],(lin [] [0,1,2,3,4,5,6,7,8,9,10]))] rfl rfl ?_
  (have hWf:=w3 @MNode.enc_eq @MProgram.enc_eq @ha;repeat' (first|refine zS ?_|refine zI ?_ ?_|exact zF0|refine zD fun hb=>?_|exact zC|refine zT ?_|fail))
  all_goals first
  | (
    (try clear hop hsp)
    (try clear hK)
    refine sB ?_;rw [Bool.eq_iff_iff,xX];have hpa0:=@pats0 pats;simp only [xV,ha,yg] at *
    first|(simp_all;done)|grind|(constructor<;>intro hh<;>grind))
  | (refine xn (fun m σ=>∃ j:Nat,j<=kids.length/\m=kids.length - j/\σ.t 2=.bx 2 0/\σ.t 3=.bx 3 0/\σ.b 2=some (.box [.sl 3 (p.types.map MType.enc),.sl 6 (p.nodes.map MNode.enc)])/\σ.b 3=some (.box [.s (.int .i64 k0),.s (.int .i64 at_),.s (.int .i64 n),.s (.string s),yT kids,.sl 1 (pats.map MPat.enc)]) /\
     σ.t 44=yT kids/\σ.t 45=.s (.int .i64 kids.length)/\σ.t 46=.s (.int .i64 j)/\∀ x∈kids.take j,(decide (0<=x)&&decide (x<(p.nodes.length:Int)))=true) kids.length ⟨0,by omega,by omega,?_⟩ ?_
     .simp only [go_sem,simprocAttr,Int.natCast_zero,hk0]
      all_goals simp
     .rintro m σ ⟨j,hj,rfl,g2,g3,gb2,gb3,g44,g45,g46,hno⟩ K' hK
      by_cases hlt:j<kids.length
      .have hx:=xi iE kids j hlt
       (have hWf:=w10 @hk0 @g2 @g3 @gb2 @gb3 @g44 @g45 @g46 @hx @x5;repeat' (first|refine zS ?_|refine zI ?_ ?_|exact zF0|refine zD fun hb=>?_|exact zC|refine zT ?_|fail))
       .refine sB ?_
        unfold x9;rw [uB hlt hb];rfl
       .refine hK (kids.length - (j+1)) _ (by omega) ⟨j+1,by omega,rfl,?_⟩
        simp only [go_sem,simprocAttr,g2,g3,gb2,gb3,g44,g45,Int.natCast_succ];exact xZ hlt hno (uC (by omega) (by omega))
      .obtain rfl:j=kids.length:=by omega
       have hin:inB p.nodes kids=true:=yp hno;clear hno hK
       (have hWf:=w8 @hk0 @g2 @g3 @gb2 @gb3 @g44 @g45 @g46;repeat' (first|refine zS ?_|refine zI ?_ ?_|((with_reducible apply xc);refine zG (yd _) ?_)|((with_reducible apply xj);refine xg (yd _) ?_)|exact zF0|refine zD fun hb=>?_|exact zC|refine zT ?_|fail))
       all_goals first
       | (
        (try clear hop hsp)
        (try clear hK)
        refine sB ?_;rw [Bool.eq_iff_iff,xX];have hpa0:=@pats0 pats;simp only [xV,ha,yg] at *
        first|(simp_all;done)|grind|(constructor<;>intro hh<;>grind))
       | (refine xn (fun m σ=>∃ j:Nat,j<=pats.length/\m=pats.length - j/\σ.t 2=.bx 2 0/\σ.t 3=.bx 3 0/\σ.b 2=some (.box [.sl 3 (p.types.map MType.enc),.sl 6 (p.nodes.map MNode.enc)])/\σ.b 3=some (.box [.s (.int .i64 k0),.s (.int .i64 at_),.s (.int .i64 n),.s (.string s),yT kids,.sl 1 (pats.map MPat.enc)]) /\
           σ.t 158=.sl 1 (pats.map MPat.enc)/\σ.t 159=.s (.int .i64 pats.length)/\σ.t 160=.s (.int .i64 j)/\∀ q∈pats.take j,patM q.nodes=true) pats.length ⟨0,by omega,by omega,?_⟩ ?_
          .simp only [go_sem,simprocAttr,hk0,g2,g3,gb2,gb3,Int.natCast_zero]
           all_goals simp
          .rintro m σ ⟨j,hj,rfl,e2,e3,eb2,eb3,e158,e159,e160,hno⟩ K'' hK
           by_cases hlt:j<pats.length
           .have hx:=xi MPat.enc pats j hlt
            have he:=MPat.enc_eq pats[j];have hpc:=xa4 pats[j].nodes (hop _ (List.getElem_mem hlt)) (hsp.2 _ (List.getElem_mem hlt));cases hpm:patM pats[j].nodes with
            | false=>
             rw [hpm] at hpc
             (have hWf:=w10 @hk0 @e2 @e3 @eb2 @eb3 @e158 @e159 @e160 @hx @he;repeat' (first|refine zS ?_|refine zI ?_ ?_|refine zK hpc ?_|exact zF0|refine zD fun hb=>?_|exact zC|refine zT ?_|fail))
             refine sB ?_;unfold x9;rw [zP (p:=fun q:MPat=>patM q.nodes) hlt hpm];simp
            | true=>
             rw [hpm] at hpc
             (have hWf:=w10 @hk0 @e2 @e3 @eb2 @eb3 @e158 @e159 @e160 @hx @he;repeat' (first|refine zS ?_|refine zI ?_ ?_|refine zK hpc ?_|exact zF0|refine zD fun hb=>?_|exact zC|refine zT ?_|fail))
             refine hK (pats.length - (j+1)) _ (by omega) ⟨j+1,by omega,rfl,?_⟩
             simp only [go_sem,simprocAttr,e2,e3,eb2,eb3,e158,e159,Int.natCast_succ];exact xZ hlt hno hpm
           .obtain rfl:j=pats.length:=by omega
            have hpa:=yp (p:=fun q:MPat=>patM q.nodes) hno
            clear hno hK
            (have hWf:=w8 @hk0 @e2 @e3 @eb2 @eb3 @e158 @e159 @e160;repeat' (first|refine zS ?_|refine zI ?_ ?_|exact zF0|refine zD fun hb=>?_|exact zC|refine zT ?_|fail))
            all_goals
             (try clear hop hsp)
             (try clear hK)
             refine sB ?_;rw [Bool.eq_iff_iff,xX];have hpa0:=@pats0 pats;simp only [xV,ha,yg,hpa] at *
             first|(simp_all;done)|grind|(constructor<;>intro hh<;>grind)))
theorem W1(xs:List MType)(f:FuncId)(caps:List D)(hm:PM.md f=[])(p:MType->Bool)(hf:∀ x∈xs,FT f (.ag x.enc::caps) (fun r _=>r=.s (.bool (p x)))) :
  FT 178 [.sl 3 (xs.map MType.enc),.fn f caps] (fun r _=>r=.s (.int .i64 (fidx p xs))):=by
 refine FI PM Tryz.func178 Tryz.ntmps178 [] rfl rfl ?_;refine YL 0 rfl trivial fun hlen=>?_
 simp only [List.length_map] at hlen
 (have hWf:=f0;repeat' (first|refine zS ?_|refine zI ?_ ?_|exact zF0|refine zD fun hb=>?_|exact zC|refine zT ?_|fail))
 refine xn (fun n σ=>∃ k:Nat,k<=xs.length/\n=xs.length - k/\σ.t 0=.sl 3 (xs.map MType.enc)/\σ.t 1=.fn f caps/\σ.t 7=.s (.int .i64 xs.length)/\σ.t 8=.s (.int .i64 k)/\∀ x∈xs.take k,p x=false) xs.length ⟨0,by omega,by omega,?_⟩ ?_
 .simp only [go_sem,simprocAttr,Int.natCast_zero]
  all_goals simp
 .rintro n σ ⟨k,hk,rfl,h0,h1,h7,h8,hno⟩ K' hK
  by_cases hlt:k<xs.length
  .have hx:=xi MType.enc xs k hlt
   have he:=MType.enc_eq xs[k];have hc:=hf xs[k] (List.getElem_mem hlt);rw [he] at hc
   cases hp:p xs[k] with
   | true=>
    rw [hp] at hc
    (have hWf:=w7 @h0 @h1 @h7 @h8 @hx @he @hm;repeat' (first|refine zS ?_|refine zI ?_ ?_|refine zK hc ?_|exact zF0|refine zD fun hb=>?_|exact zC|refine zT ?_|fail))
    all_goals exact xN (XR p xs k hlt hno hp).symm
   | false=>
    rw [hp] at hc
    (have hWf:=w7 @h0 @h1 @h7 @h8 @hx @he @hm;repeat' (first|refine zS ?_|refine zI ?_ ?_|refine zK hc ?_|exact zF0|refine zD fun hb=>?_|exact zC|refine zT ?_|fail))
    refine hK (xs.length - (k+1)) _ (by omega) ⟨k+1,by omega,rfl,?_⟩
    simp only [go_sem,simprocAttr,h0,h1,h7,Int.natCast_succ];exact WG hlt hno hp
  .obtain rfl:k=xs.length:=by omega
   (have hWf:=w4 @h0 @h1 @h7 @h8;repeat' (first|refine zS ?_|refine zI ?_ ?_|exact zF0|refine zD fun hb=>?_|exact zC|refine zT ?_|fail))
   exact xN (XS p xs (by simpa using hno)).symm
theorem vS(xs:List MType)(f:FuncId)(caps:List D)(hm:PM.md f=[])(p:MType->Bool)(hf:∀ x∈xs,FT f (.ag x.enc::caps) (fun r _=>r=.s (.bool (p x)))) :
  FT 98 [.sl 3 (xs.map MType.enc),.fn f caps] (fun r _=>r=.s (.bool (xs.any p))):=by
 refine FI PM Tryz.func98 Tryz.ntmps98 [] rfl rfl ?_
 (have hWf:=f0;repeat' (first|refine zS ?_|refine zI ?_ ?_|refine zK (W1 xs f caps hm p hf) ?_|exact zF0|refine zD fun hb=>?_|exact zC|refine zT ?_|fail))
 exact sB (vZ p xs)
theorem UL(xs:List MPat)(f:FuncId)(caps:List D)(hm:PM.md f=[])(p:MPat->Bool)(hf:∀ x∈xs,FT f (.ag x.enc::caps) (fun r _=>r=.s (.bool (p x)))) :
  FT 105 [.sl 1 (xs.map MPat.enc),.fn f caps] (fun r _=>r=.s (.int .i64 (fidx p xs))):=by
 refine FI PM Tryz.func105 Tryz.ntmps105 [] rfl rfl ?_;refine YL 0 rfl trivial fun hlen=>?_
 simp only [List.length_map] at hlen
 (have hWf:=f0;repeat' (first|refine zS ?_|refine zI ?_ ?_|exact zF0|refine zD fun hb=>?_|exact zC|refine zT ?_|fail))
 refine xn (fun n σ=>∃ k:Nat,k<=xs.length/\n=xs.length - k/\σ.t 0=.sl 1 (xs.map MPat.enc)/\σ.t 1=.fn f caps/\σ.t 7=.s (.int .i64 xs.length)/\σ.t 8=.s (.int .i64 k)/\∀ x∈xs.take k,p x=false) xs.length ⟨0,by omega,by omega,?_⟩ ?_
 .simp only [go_sem,simprocAttr,Int.natCast_zero]
  all_goals simp
 .rintro n σ ⟨k,hk,rfl,h0,h1,h7,h8,hno⟩ K' hK
  by_cases hlt:k<xs.length
  .have hx:=xi MPat.enc xs k hlt
   have he:=MPat.enc_eq xs[k];have hc:=hf xs[k] (List.getElem_mem hlt);rw [he] at hc
   cases hp:p xs[k] with
   | true=>
    rw [hp] at hc
    (have hWf:=w7 @h0 @h1 @h7 @h8 @hx @he @hm;repeat' (first|refine zS ?_|refine zI ?_ ?_|refine zK hc ?_|exact zF0|refine zD fun hb=>?_|exact zC|refine zT ?_|fail))
    all_goals exact xN (XR p xs k hlt hno hp).symm
   | false=>
    rw [hp] at hc
    (have hWf:=w7 @h0 @h1 @h7 @h8 @hx @he @hm;repeat' (first|refine zS ?_|refine zI ?_ ?_|refine zK hc ?_|exact zF0|refine zD fun hb=>?_|exact zC|refine zT ?_|fail))
    refine hK (xs.length - (k+1)) _ (by omega) ⟨k+1,by omega,rfl,?_⟩
    simp only [go_sem,simprocAttr,h0,h1,h7,Int.natCast_succ];exact WG hlt hno hp
  .obtain rfl:k=xs.length:=by omega
   (have hWf:=w4 @h0 @h1 @h7 @h8;repeat' (first|refine zS ?_|refine zI ?_ ?_|exact zF0|refine zD fun hb=>?_|exact zC|refine zT ?_|fail))
   exact xN (XS p xs (by simpa using hno)).symm
theorem ZF(xs:List MPat)(f:FuncId)(caps:List D)(hm:PM.md f=[])(p:MPat->Bool)(hf:∀ x∈xs,FT f (.ag x.enc::caps) (fun r _=>r=.s (.bool (p x)))) :
  FT 44 [.sl 1 (xs.map MPat.enc),.fn f caps] (fun r _=>r=.s (.bool (xs.any p))):=by
 refine FI PM Tryz.func44 Tryz.ntmps44 [] rfl rfl ?_
 (have hWf:=f0;repeat' (first|refine zS ?_|refine zI ?_ ?_|refine zK (UL xs f caps hm p hf) ?_|exact zF0|refine zD fun hb=>?_|exact zC|refine zT ?_|fail))
 exact sB (vZ p xs)
def uP(p:MProgram)(nb:MNode->Bool):Bool:=!(!(decide (1<=(p.nodes.length:Int))&&decide ((p.nodes.length:Int)<=600))||decide (8<(p.types.length:Int)))&&yi (x7 p.nodes)&&(p.nodes.all fun n=>yw p.nodes n (nb n))&&p.types.all wb
theorem xcf{p:MProgram}{nb:MNode->Bool}(h:((p.nodes.length:Int)<1\/600<(p.nodes.length:Int))\/8<(p.types.length:Int)):uP p nb=false:=by
 unfold uP;rcases h with (h|h)|h
 .rw [decide_eq_false (by omega:¬ 1<=(p.nodes.length:Int))];simp
 .rw [decide_eq_false (by omega:¬ (p.nodes.length:Int)<=600)];simp
 .rw [decide_eq_true h];simp
theorem xcg{p:MProgram}{nb:MNode->Bool}(h:yi (x7 p.nodes)=false):uP p nb=false:=by unfold uP;rw [h];simp
theorem shapeI_ok{p:MProgram}{nb:MNode->Bool}(h1:1<=(p.nodes.length:Int))(h2:(p.nodes.length:Int)<=600)(h3:(p.types.length:Int)<=8)(h:yi (x7 p.nodes)=true):uP p nb=((p.nodes.all fun n=>yw p.nodes n (nb n))&&p.types.all wb):=by
 unfold uP;rw [h,decide_eq_true h1,decide_eq_true h2,decide_eq_false (by omega:¬ 8<(p.types.length:Int))];simp
theorem UU(t:MType)(ho:t.ok)(hs:t.sm):FT 99 [.ag t.enc] (fun r _=>r=.s (.bool (!wb t))):=by
 have h:=c_typeOk t ho hs;rw [MType.enc_eq] at h
 refine FI PM Tryz.func99 Tryz.ntmps99 [] rfl rfl ?_
 (have hWf:=w1 @MType.enc_eq;repeat' (first|refine zS ?_|refine zI ?_ ?_|refine zK h ?_|exact zF0|refine zD fun hb=>?_|exact zC|refine zT ?_|fail))
theorem c_progOk1(n:MNode)(ho:n.ok):FT 42 [.ag n.enc] (fun r _=>r=.s (.bool (yg n))):=by
 refine FI PM Tryz.func42 Tryz.ntmps42 [] rfl rfl ?_
 (have hWf:=w1 @MNode.enc_eq;repeat' (first|refine zS ?_|refine zI ?_ ?_|refine zK (uq n.s ho.2.2.2.1) ?_|exact zF0|refine zD fun hb=>?_|exact zC|refine zT ?_|fail))
 all_goals
  refine sB ?_;unfold yg
  first|rfl|(congr 1;rw [Bool.eq_iff_iff];simp)
theorem c_progOk2(q:MPat)(ho:q.ok)(hs:q.sm):FT 45 [.ag q.enc] (fun r _=>r=.s (.bool (!patM q.nodes))):=by
 refine FI PM Tryz.func45 Tryz.ntmps45 [] rfl rfl ?_
 (have hWf:=w1 @MPat.enc_eq;repeat' (first|refine zS ?_|refine zI ?_ ?_|refine zK (WN q.nodes ho hs) ?_|exact zF0|refine zD fun hb=>?_|exact zC|refine zT ?_|fail))
theorem node_kid{p:MProgram}(hor:yi (x7 p.nodes)=true){k:Nat}(hlk:k<p.nodes.length)(h0:0<p.nodes[k].kids.length):∃ q:Nat,p.nodes[k].kids[0]=(q:Int)/\q<p.nodes.length:=by
 unfold yi at hor
 have he:pEnd (x7 p.nodes) (x7 p.nodes).length 0=some (x7 p.nodes).length:=by simpa using hor
 have hlen:(x7 p.nodes).length=p.nodes.length:=by simp
 have:=Zg (x7 p.nodes) _ _ _ he k (by rw [hlen];exact hlk) (Nat.zero_le _) (by rw [hlen];exact hlk) (p.nodes[k].kids[0]) (by simp [x7])
 rw [hlen] at this
 exact this
theorem c_shapeOk(p:MProgram)(ho:p.ok)(hs:p.sm)(f:FuncId)(caps:List D)(hm:PM.md f=[])(nb:MNode->Bool)(hf:∀ n∈p.nodes,FT f (.ag n.enc::caps) (fun r _=>r=.s (.bool (nb n)))) :
  FT 41 [.ag p.enc,.fn f caps] (fun r _=>r=.s (.bool (uP p nb))):=by
 obtain ⟨o1,o2⟩:=ho;obtain ⟨s1,s2⟩:=hs;have hln:=s2.1;have hlt:=s1.1;have hkl:∀ x∈p.nodes,x.kids.length<=1000000000:=fun x hx=>by have:=(s2.2 x hx).2.1.1;omega
 have hio:=xbp p o2 (by omega) hkl
 rw [MProgram.enc_eq] at hio
 refine FI PM Tryz.func41 Tryz.ntmps41 [] rfl rfl ?_
 (refine xE ?_;simp only [go_sem,simprocAttr,MProgram.enc_eq];(have hWf:=w1 @MProgram.enc_eq;repeat' (first|refine zY ?_|refine zI ?_ ?_|exact zF1|refine zD fun hb=>?_|exact zC|refine zT ?_|fail)))
 refine z8 2 (.box [.sl 3 (p.types.map MType.enc),.sl 6 (p.nodes.map MNode.enc)]) (by simp only [go_sem,simprocAttr,MProgram.enc_eq]) rfl ?_
 (have hWf:=w1 @MProgram.enc_eq;repeat' (first|refine zS ?_|refine zI ?_ ?_|refine zK (xv p.nodes.length 1 600) ?_|refine zK hio ?_|exact zF0|refine zD fun hb=>?_|exact zC|refine zT ?_|fail))
 .exact sB (xcf (by omega)).symm
 .exact sB (xcg (by first|exact hb|exact hb.symm)).symm
 .rename_i hb1
  have hor:yi (x7 p.nodes)=true:=by first|exact hb|exact hb.symm
  rw [shapeI_ok (by omega) (by omega) (by omega) hor]
  refine xn (fun n σ=>∃ k:Nat,k<=p.nodes.length/\n=p.nodes.length - k/\σ.t 1=.fn f caps/\σ.t 2=.pt [.sl 3 (p.types.map MType.enc),.sl 6 (p.nodes.map MNode.enc)]/\σ.t 25=.sl 6 (p.nodes.map MNode.enc)/\σ.t 26=.s (.int .i64 p.nodes.length)/\σ.t 27=.s (.int .i64 k)/\∀ x∈p.nodes.take k,yw p.nodes x (nb x)=true) p.nodes.length ⟨0,by omega,by omega,?_⟩ ?_
  .simp only [go_sem,simprocAttr,MProgram.enc_eq,Int.natCast_zero]
   all_goals simp
  .rintro n σ ⟨k,hk,rfl,h1,h2,h25,h26,h27,hno⟩ K' hK
   by_cases hlk:k<p.nodes.length
   .have hx:=xi MNode.enc p.nodes k hlk
    have he:=MNode.enc_eq p.nodes[k];have hmem:=List.getElem_mem hlk;have hc:=c_nodeOk p p.nodes[k] (o2 _ hmem) (s2.2 _ hmem).2.2.1 (by have:=(s2.2 _ hmem).2.1.1;omega) f caps hm (nb p.nodes[k]) (hf _ hmem) (node_kid hor hlk)
    rw [MProgram.enc_eq,MNode.enc_eq] at hc
    cases hq:yw p.nodes p.nodes[k] (nb p.nodes[k]) with
    | false=>
     rw [hq] at hc
     (have hWf:=w7 @h1 @h2 @h25 @h26 @h27 @hx @he;repeat' (first|refine zS ?_|refine zI ?_ ?_|refine zK hc ?_|exact zF0|refine zD fun hb=>?_|exact zC|refine zT ?_|fail))
     rw [zP (p:=fun n=>yw p.nodes n (nb n)) hlk hq];rfl
    | true=>
     rw [hq] at hc
     (have hWf:=w7 @h1 @h2 @h25 @h26 @h27 @hx @he;repeat' (first|refine zS ?_|refine zI ?_ ?_|refine zK hc ?_|exact zF0|refine zD fun hb=>?_|exact zC|refine zT ?_|fail))
     refine hK (p.nodes.length - (k+1)) _ (by omega) ⟨k+1,by omega,rfl,?_⟩
     simp only [go_sem,simprocAttr,h1,h2,h25,h26,h27,Int.natCast_succ];exact xZ hlk hno hq
   .obtain rfl:k=p.nodes.length:=by omega
    (have hWf:=w5 @h1 @h2 @h25 @h26 @h27;repeat' (first|refine zS ?_|refine zI ?_ ?_|((with_reducible apply xc);refine zG (vS p.types _ [] rfl (fun t=>!wb t) (fun t ht=>UU t (o1 t ht) (s1.2 t ht))) ?_)|((with_reducible apply xj);refine xg (vS p.types _ [] rfl (fun t=>!wb t) (fun t ht=>UU t (o1 t ht) (s1.2 t ht))) ?_)|exact zF0|refine zD fun hb=>?_|exact zC|refine zT ?_|fail))
    rw [yp (p:=fun n=>yw p.nodes n (nb n)) hno]
    rw [show p.types.all wb=!p.types.any fun t=>!wb t by rw [List.not_any_eq_all_not];simp]
    rfl
def progI(p:MProgram):Bool:=uP p yg&&p.nodes.all fun n=>n.pats.all fun q=>patM q.nodes
theorem W3(p:MProgram)(ho:p.ok)(hs:p.sm):FT 14 [.ag p.enc] (fun r _=>r=.s (.bool (progI p))):=by
 have hss:=c_shapeOk p ho hs 42 [] rfl yg (fun n hn=>c_progOk1 n (ho.2 n hn))
 rw [MProgram.enc_eq] at hss
 obtain ⟨o1,o2⟩:=ho;obtain ⟨s1,s2⟩:=hs;have hln:=s2.1;unfold progI;cases hsh:uP p yg with
 | false=>
  rw [hsh] at hss
  refine FI PM Tryz.func14 Tryz.ntmps14 [] rfl rfl ?_
  (have hWf:=w1 @MProgram.enc_eq;repeat' (first|refine zS ?_|refine zI ?_ ?_|refine zK hss ?_|exact zF0|refine zD fun hb=>?_|exact zC|refine zT ?_|fail))
  all_goals rfl
 | true=>
  rw [hsh] at hss
  refine FI PM Tryz.func14 Tryz.ntmps14 [] rfl rfl ?_
  (have hWf:=w1 @MProgram.enc_eq;repeat' (first|refine zS ?_|refine zI ?_ ?_|refine zK hss ?_|exact zF0|refine zD fun hb=>?_|exact zC|refine zT ?_|fail))
  refine xn (fun n σ=>∃ k:Nat,k<=p.nodes.length/\n=p.nodes.length - k/\σ.t 9=.sl 6 (p.nodes.map MNode.enc)/\σ.t 10=.s (.int .i64 p.nodes.length)/\σ.t 11=.s (.int .i64 k)/\∀ x∈p.nodes.take k,(x.pats.all fun q=>patM q.nodes)=true) p.nodes.length ⟨0,by omega,by omega,?_⟩ ?_
  .simp only [go_sem,simprocAttr,MProgram.enc_eq,Int.natCast_zero]
   all_goals simp
  .rintro n σ ⟨k,hk,rfl,h9,h10,h11,hno⟩ K' hK
   by_cases hlk:k<p.nodes.length
   .have hx:=xi MNode.enc p.nodes k hlk
    have he:=MNode.enc_eq p.nodes[k];have hmem:=List.getElem_mem hlk;have ho':=(o2 _ hmem).2.2.2.2.2;have hs':=(s2.2 _ hmem).2.2;have hna:(p.nodes[k].pats.all fun q=>patM q.nodes)=!p.nodes[k].pats.any fun q=>!patM q.nodes:=by rw [List.not_any_eq_all_not];simp
    have hcf:=ZF p.nodes[k].pats 45 [] rfl (fun q=>!patM q.nodes) (fun q hq=>c_progOk2 q (ho' q hq) (hs'.2 q hq))
    cases hq:(p.nodes[k].pats.any fun q=>!patM q.nodes) with
    | true=>
     rw [hq] at hcf hna
     (have hWf:=w5 @h9 @h10 @h11 @hx @he;repeat' (first|refine zS ?_|refine zI ?_ ?_|refine zK hcf ?_|exact zF0|refine zD fun hb=>?_|exact zC|refine zT ?_|fail))
     rw [zP (p:=fun n:MNode=>n.pats.all fun q=>patM q.nodes) hlk hna]
    | false=>
     rw [hq] at hcf hna
     (have hWf:=w5 @h9 @h10 @h11 @hx @he;repeat' (first|refine zS ?_|refine zI ?_ ?_|refine zK hcf ?_|exact zF0|refine zD fun hb=>?_|exact zC|refine zT ?_|fail))
     refine hK (p.nodes.length - (k+1)) _ (by omega) ⟨k+1,by omega,rfl,?_⟩
     simp only [go_sem,simprocAttr,h9,h10,h11,Int.natCast_succ];exact xZ hlk hno hna
   .obtain rfl:k=p.nodes.length:=by omega
    (have hWf:=w3 @h9 @h10 @h11;repeat' (first|refine zS ?_|refine zI ?_ ?_|exact zF0|refine zD fun hb=>?_|exact zC|refine zT ?_|fail))
    rw [yp (p:=fun n:MNode=>n.pats.all fun q=>patM q.nodes) hno]
theorem order_in{p:MProgram}(h:yi (x7 p.nodes)=true):∀ n∈p.nodes,inB p.nodes n.kids=true:=by
 intro n hn;obtain ⟨k,hk,rfl⟩:=List.getElem_of_mem hn;unfold yi at h
 have he:pEnd (x7 p.nodes) (x7 p.nodes).length 0=some (x7 p.nodes).length:=by simpa using h
 have hlen:(x7 p.nodes).length=p.nodes.length:=by simp
 refine List.all_eq_true.2 fun z hz=>?_
 obtain ⟨q,rfl,hq⟩:=Zg (x7 p.nodes) _ _ _ he k (by rw [hlen];exact hk) (Nat.zero_le _) (by rw [hlen];exact hk) z (by simpa [x7] using hz)
 rw [hlen] at hq
 rw [decide_eq_true (by omega),decide_eq_true (by omega)];rfl
theorem progI_eq(p:MProgram):progI p=wI p:=by
 unfold progI wI uP;cases ho:yi (x7 p.nodes) with
 | false=>simp
 | true=>
  have hin:=order_in ho;have h1:p.nodes.all (x9 p.nodes)=((p.nodes.all fun n=>yw p.nodes n (yg n))&&p.nodes.all fun n=>n.pats.all fun q=>patM q.nodes):=by
   rw [Bool.eq_iff_iff];simp only [Bool.and_eq_true,List.all_eq_true]
   constructor
   .intro h
    refine ⟨fun n hn=>?_,fun n hn=>?_⟩
    .have:=h n hn
     unfold x9 at this
     simp only [Bool.and_eq_true] at this
     exact this.1.2
    .have:=h n hn
     unfold x9 at this
     simp only [Bool.and_eq_true,List.all_eq_true] at this
     exact this.2
   .intro ⟨h1,h2⟩ n hn
    unfold x9;simp only [Bool.and_eq_true,List.all_eq_true];exact ⟨⟨hin n hn,h1 n hn⟩,h2 n hn⟩
  rw [h1];have h2:(!(!(decide (1<=(p.nodes.length:Int))&&decide ((p.nodes.length:Int)<=600))||decide (8<(p.types.length:Int))))=(decide (1<=p.nodes.length)&&decide (p.nodes.length<=600)&&decide (p.types.length<=8)):=by
   rw [Bool.eq_iff_iff];simp only [Bool.not_eq_true',Bool.or_eq_false_iff,Bool.not_eq_false',Bool.and_eq_true,decide_eq_true_eq,decide_eq_false_iff_not];omega
  rw [h2];cases decide (1<=p.nodes.length)<;>cases decide (p.nodes.length<=600)<;>cases decide (p.types.length<=8)<;>cases (p.nodes.all fun n=>yw p.nodes n (yg n))<;>cases (p.types.all wb)<;>simp
theorem Yn(p:MProgram)(ho:p.ok)(hs:p.sm):FT 14 [.ag p.enc] (fun r _=>r=.s (.bool (wI p))):=by
 rw [<- progI_eq];exact W3 p ho hs
theorem c_l04NEnd(p:MProgram)(ho:∀ x∈p.nodes,x.ok)(hl:p.nodes.length<=1000000000)(hks:∀ x∈p.nodes,x.kids.length<=1000000000) :
  ∀ (N m:Nat),p.nodes.length - m<=N->m<=2000000000->FT 50 [.ag p.enc,.s (.int .i64 m)] (fun r _=>r=.s (.int .i64 (endZ (pEnd (x7 p.nodes) N m)))):=by
 have hlen:(x7 p.nodes).length=p.nodes.length:=by simp
 have out:∀ (N m:Nat),p.nodes.length<=m->m<=2000000000->FT 50 [.ag p.enc,.s (.int .i64 m)] (fun r _=>r=.s (.int .i64 (endZ (pEnd (x7 p.nodes) N m)))):=by
  intro N m hm hm2;rw [Ye _ _ _ (by rw [hlen];exact hm)]
  refine FI PM Tryz.func50 Tryz.ntmps50 [] rfl rfl ?_
  (have hWf:=w1 @MProgram.enc_eq;repeat' (first|refine zS ?_|refine zI ?_ ?_|exact zF0|refine zD fun hb=>?_|exact zC|refine zT ?_|fail))
  all_goals (try rfl)
 intro N
 induction N with
 | zero=>intro m hm hm2;exact out 0 m (by omega) hm2
 | succ N ih=>
  intro m hm hm2
  by_cases hlt:m<p.nodes.length
  .have hx:=xi MNode.enc p.nodes m hlt
   have he:=MNode.enc_eq p.nodes[m];have hkl:=hks _ (List.getElem_mem hlt);rw [YR _ _ _ (by rw [hlen];exact hlt)]
   have hka:(x7 p.nodes)[m]'(by rw [hlen];exact hlt)=p.nodes[m].kids:=by simp [x7]
   rw [hka];obtain ⟨R,hR⟩:∃ R,zV (pEnd (x7 p.nodes) N) p.nodes[m].kids (m+1)=R:=⟨_,rfl⟩;rw [hR];refine FI PM Tryz.func50 Tryz.ntmps50 [] rfl rfl ?_
   (have hWf:=w3 @MProgram.enc_eq @hx @he;repeat' (first|refine zS ?_|refine zI ?_ ?_|exact zF0|refine zD fun hb=>?_|exact zC|refine zT ?_|fail))
   refine xn (fun n σ=>∃ j cur:Nat,j<=p.nodes[m].kids.length/\n=p.nodes[m].kids.length - j/\m<cur/\cur<=2000000000/\zV (pEnd (x7 p.nodes) N) (p.nodes[m].kids.drop j) cur=R/\σ.t 2=.bx 2 0/\σ.b 2=some (.box [.sl 3 (p.types.map MType.enc),.sl 6 (p.nodes.map MNode.enc)])/\σ.t 5=.s (.int .i64 cur)/\σ.t 20=yT p.nodes[m].kids/\σ.t 21=.s (.int .i64 p.nodes[m].kids.length)/\σ.t 22=.s (.int .i64 j)) p.nodes[m].kids.length ⟨0,m+1,by omega,by omega,by omega,by omega,by rw [List.drop_zero];exact hR,?_⟩ ?_
   .simp only [go_sem,simprocAttr,MProgram.enc_eq,Int.natCast_succ]
    all_goals simp
   .rintro n σ ⟨j,cur,hj,rfl,hcur,hc2,hp,h2,hb2,h5,h20,h21,h22⟩ K' hK
    by_cases hjl:j<p.nodes[m].kids.length
    .have gx:=xi iE p.nodes[m].kids j hjl
     rw [ZO _ j hjl,vM] at hp
     by_cases hkc:p.nodes[m].kids[j]=(cur:Int)
     .have hw:yN (x7 p.nodes) N p.nodes[m].kids[j] cur=pEnd (x7 p.nodes) N cur:=by unfold yN;rw [if_pos hkc]
      rw [hw] at hp
      have hkn:((cur:Int) != (cur:Int))=false:=bne_self_eq_false _;have hcc:=ih cur (by omega) hc2
      cases hq:pEnd (x7 p.nodes) N cur with
      | none=>
       rw [hq] at hcc hp
       have hcc:FT 50 [.ag [.sl 3 (p.types.map MType.enc),.sl 6 (p.nodes.map MNode.enc)],.s (.int .i64 cur)] (fun r _=>r=.s (.int .i64 (-1))):=hcc
       (have hWf:=w10 @h2 @hb2 @h5 @h20 @h21 @h22 @gx @x5 @hkc (ai @hkn<|@MProgram.enc_eq);repeat' (first|refine zS ?_|refine zI ?_ ?_|refine zK hcc ?_|exact zF0|refine zD fun hb=>?_|exact zC|refine zT ?_|fail))
       all_goals (rw [<- hp];rfl)
      | some e1=>
       rw [hq] at hcc hp
       have hcc:FT 50 [.ag [.sl 3 (p.types.map MType.enc),.sl 6 (p.nodes.map MNode.enc)],.s (.int .i64 cur)] (fun r _=>r=.s (.int .i64 (e1:Int))):=hcc
       have hbd:=YS _ _ _ _ hq;rw [hlen] at hbd
       (have hWf:=w10 @h2 @hb2 @h5 @h20 @h21 @h22 @gx @x5 @hkc (ai @hkn<|@MProgram.enc_eq);repeat' (first|refine zS ?_|refine zI ?_ ?_|refine zK hcc ?_|exact zF0|refine zD fun hb=>?_|exact zC|refine zT ?_|fail))
       refine hK (p.nodes[m].kids.length - (j+1)) _ (by omega) ⟨j+1,e1,by omega,rfl,by omega,by omega,hp,?_⟩
       simp only [go_sem,simprocAttr,h2,hb2,h5,h20,h21,h22,Int.natCast_succ]
       all_goals simp
     .have hw:yN (x7 p.nodes) N p.nodes[m].kids[j] cur=none:=by unfold yN;rw [if_neg hkc]
      rw [hw] at hp
      have hne:(p.nodes[m].kids[j] != (cur:Int))=true:=by simpa using hkc
      (have hWf:=w10 @h2 @hb2 @h5 @h20 @h21 @h22 @gx @x5 @hne @MProgram.enc_eq;repeat' (first|refine zS ?_|refine zI ?_ ?_|exact zF0|refine zD fun hb=>?_|exact zC|refine zT ?_|fail))
      all_goals (rw [<- hp];rfl)
    .obtain rfl:j=p.nodes[m].kids.length:=by omega
     rw [List.drop_eq_nil_of_le (Nat.le_refl _)] at hp
     (have hWf:=w6 @h2 @hb2 @h5 @h20 @h21 @h22;repeat' (first|refine zS ?_|refine zI ?_ ?_|exact zF0|refine zD fun hb=>?_|exact zC|refine zT ?_|fail))
     rw [<- hp];rfl
  .exact out (N+1) m (by omega) hm2
theorem c_l04Node(p:MProgram)(x:MNode)(ho:x.ok)(hs:x.sm):FT 49 [.ag p.enc,.ag x.enc] (fun r _=>r=.s (.bool (x9 p.nodes x))):=by
 obtain ⟨kind,at_,n,s,kids,pats⟩:=x;obtain ⟨o1,o2,o3,o4,o5,o6⟩:=ho;obtain ⟨s1,s2,s3⟩:=hs
 by_cases hkd:kind<1\/19<kind
 .have hm:x9 p.nodes ⟨kind,at_,n,s,kids,pats⟩=false:=by
   have g:xV p.nodes ⟨kind,at_,n,s,kids,pats⟩ (yg ⟨kind,at_,n,s,kids,pats⟩)=false:=by
    unfold xV;simp only
    repeat' split
    all_goals first
     | omega
     | (rcases hkd with q|q
        .rw [decide_eq_false (by omega:¬ 1<=kind)];rfl
        .rw [decide_eq_false (by omega:¬ kind<=19)];simp)
   unfold x9 yw;rw [g];simp
  rw [hm];rcases hkd with hkd|hkd
  .have h1:decide (kind<1)=true:=decide_eq_true hkd
   refine FI PM Tryz.func49 Tryz.ntmps49 [(15,26,[],[],(lin [] [0,1,2,3,4,5,6,7,8,9,10,11,12,13,14,15,16,17,18,19,20,21,22,23,24,25])),(24,15,[],[],(lin [] [0,1,2,3,4,5,6,7,8,9,10,11,12,13,14])),(26,11,[],[],(lin [] [0,1,2,3,4,5,6,7,8,9,10]))] rfl rfl ?_
   (have hWf:=w3 @MNode.enc_eq @MProgram.enc_eq @h1;repeat' (first|refine zS ?_|refine zI ?_ ?_|exact zF0|refine zD fun hb=>?_|exact zC|refine zT ?_|fail))
   all_goals (first|(done)|(exfalso;simp_all;omega)|trace_state)
  .have h1:decide (kind<1)=false:=decide_eq_false (by omega)
   have h2:decide (kind>19)=true:=decide_eq_true hkd;refine FI PM Tryz.func49 Tryz.ntmps49 [(15,26,[],[],(lin [] [0,1,2,3,4,5,6,7,8,9,10,11,12,13,14,15,16,17,18,19,20,21,22,23,24,25])),(24,15,[],[],(lin [] [0,1,2,3,4,5,6,7,8,9,10,11,12,13,14])),(26,11,[],[],(lin [] [0,1,2,3,4,5,6,7,8,9,10]))] rfl rfl ?_
   (have hWf:=w4 @MNode.enc_eq @MProgram.enc_eq @h1 @h2;repeat' (first|refine zS ?_|refine zI ?_ ?_|exact zF0|refine zD fun hb=>?_|exact zC|refine zT ?_|fail))
   all_goals (first|(done)|(exfalso;simp_all;omega)|trace_state)
 .rcases (show kind=1\/kind=2\/kind=3\/kind=4\/kind=5\/kind=6\/kind=7\/kind=8\/kind=9\/kind=10\/kind=11\/kind=12\/kind=13\/kind=14\/kind=15\/kind=16\/kind=17\/kind=18\/kind=19 by omega) with rfl|rfl|rfl|rfl|rfl|rfl|rfl|rfl|rfl|rfl|rfl|rfl|rfl|rfl|rfl|rfl|rfl|rfl|rfl
  .exact Z4 p 1 (.inl ⟨rfl,by decide⟩) at_ n s kids pats s2.1 s3.1 o4 o6 s3
  .exact Z4 p 2 (.inr (.inl ⟨rfl,by decide⟩)) at_ n s kids pats s2.1 s3.1 o4 o6 s3
  .exact Z4 p 3 (.inr (.inr (⟨rfl,by decide⟩))) at_ n s kids pats s2.1 s3.1 o4 o6 s3
  .exact l04Node_4 p 4 (⟨rfl,by decide⟩) at_ n s kids pats s2.1 s3.1 o4 o6 s3
  .exact Z5 p 5 (.inl ⟨rfl,by decide⟩) at_ n s kids pats s2.1 s3.1 o4 o6 s3
  .exact Z6 p 6 (.inl ⟨rfl,by decide⟩) at_ n s kids pats s2.1 s3.1 o4 o6 s3
  .exact Z5 p 7 (.inr (.inl ⟨rfl,by decide⟩)) at_ n s kids pats s2.1 s3.1 o4 o6 s3
  .exact l04Node_8 p 8 (⟨rfl,by decide⟩) at_ n s kids pats s2.1 s3.1 o4 o6 s3
  .exact Z6 p 9 (.inr (.inl ⟨rfl,by decide⟩)) at_ n s kids pats s2.1 s3.1 o4 o6 s3
  .exact Z6 p 10 (.inr (.inr (⟨rfl,by decide⟩))) at_ n s kids pats s2.1 s3.1 o4 o6 s3
  .exact Z7 p 11 (.inl ⟨rfl,by decide⟩) at_ n s kids pats s2.1 s3.1 o4 o6 s3
  .exact Z7 p 12 (.inr (.inl ⟨rfl,by decide⟩)) at_ n s kids pats s2.1 s3.1 o4 o6 s3
  .exact xbT p 13 (⟨rfl,by decide⟩) at_ n s kids pats s2.1 s3.1 o4 o6 s3
  .exact Z7 p 14 (.inr (.inr (⟨rfl,by decide⟩))) at_ n s kids pats s2.1 s3.1 o4 o6 s3
  .exact Z5 p 15 (.inr (.inr (⟨rfl,by decide⟩))) at_ n s kids pats s2.1 s3.1 o4 o6 s3
  .exact Qg p 16 (.inl ⟨rfl,by decide⟩) at_ n s kids pats s2.1 s3.1 o4 o6 s3
  .exact Qg p 17 (.inr (⟨rfl,by decide⟩)) at_ n s kids pats s2.1 s3.1 o4 o6 s3
  .exact Qh p 18 (.inl ⟨rfl,by decide⟩) at_ n s kids pats s2.1 s3.1 o4 o6 s3
  .exact Qh p 19 (.inr (⟨rfl,by decide⟩)) at_ n s kids pats s2.1 s3.1 o4 o6 s3
theorem headM{p:MProgram}(h:((p.nodes.length:Int)<1\/600<(p.nodes.length:Int))\/8<(p.types.length:Int)):wI p=false:=by
 unfold wI;rcases h with (h|h)|h
 .rw [decide_eq_false (by omega:¬ 1<=p.nodes.length)];rfl
 .rw [decide_eq_false (by omega:¬ p.nodes.length<=600)];simp
 .rw [decide_eq_false (by omega:¬ p.types.length<=8)];simp
theorem headM_ok{p:MProgram}(h:(1<=(p.nodes.length:Int)/\(p.nodes.length:Int)<=600)/\(p.types.length:Int)<=8):wI p=(p.types.all wb&&p.nodes.all (x9 p.nodes)&&yi (x7 p.nodes)):=by
 unfold wI;rw [decide_eq_true (by omega:1<=p.nodes.length),decide_eq_true (by omega:p.nodes.length<=600),decide_eq_true (by omega:p.types.length<=8)]
 rfl
theorem typeS_bad{t:MType}(h:(((yM t.name=false\/t.params<0)\/2<t.params)\/(t.cons.length:Int)<1)\/8<(t.cons.length:Int)):wb t=false:=Qt (by
 rcases h with (((h|h)|h)|h)|h
 .exact .inl (.inl h)
 .exact .inl (.inr (.inl h))
 .exact .inl (.inr (.inr h))
 .exact .inr (.inl h)
 .exact .inr (.inr h))
theorem typeS_ok{t:MType}(h:(((yM t.name=true/\0<=t.params)/\t.params<=2)/\1<=(t.cons.length:Int))/\(t.cons.length:Int)<=8):wb t=t.cons.all (yK t.params):=xaO ⟨⟨h.1.1.1.1,h.1.1.1.2,h.1.1.2⟩,h.1.2,h.2⟩
theorem Yq(p:MProgram)(ho:p.ok)(hs:p.sm):FT 15 [.ag p.enc] (fun r _=>r=.s (.bool (wI p))):=by
 obtain ⟨o1,o2⟩:=ho;obtain ⟨s1,s2⟩:=hs;have hln:=s2.1;have hlt:=s1.1;have hkl:∀ x∈p.nodes,x.kids.length<=1000000000:=fun x hx=>by have:=(s2.2 x hx).2.1.1;omega
 refine FI PM Tryz.func15 Tryz.ntmps15 [(21,5,[],[],(lin [] [0,1,2,3,4]))] rfl rfl ?_
 (have hWf:=w1 @MProgram.enc_eq;repeat' (first|refine zS ?_|refine zI ?_ ?_|exact zF0|refine zD fun hb=>?_|exact zC|refine zT ?_|fail))
 .rw [headM hb]
 .rw [headM_ok hb]
  refine xn (fun n σ=>∃ k:Nat,k<=p.types.length/\n=p.types.length - k/\σ.t 1=.bx 1 0/\σ.b 1=some (.box [.sl 3 (p.types.map MType.enc),.sl 6 (p.nodes.map MNode.enc)])/\σ.t 26=.sl 3 (p.types.map MType.enc)/\σ.t 27=.s (.int .i64 p.types.length)/\σ.t 28=.s (.int .i64 k)/\∀ x∈p.types.take k,wb x=true) p.types.length ⟨0,by omega,by omega,?_⟩ ?_
  .simp only [go_sem,simprocAttr,MProgram.enc_eq,Int.natCast_succ,Int.natCast_zero]
   all_goals simp
  .rintro n σ ⟨k,hk,rfl,h1,hb1,h26,h27,h28,hno⟩ K' hK
   by_cases hlk:k<p.types.length
   .have hx:=xi MType.enc p.types k hlk
    have he:=MType.enc_eq p.types[k];have hok:=o1 _ (List.getElem_mem hlk);have hsm:=s1.2 _ (List.getElem_mem hlk);have hcl:=hsm.2.1
    (have hWf:=w7 @h1 @hb1 @h26 @h27 @h28 @hx @he;repeat' (first|refine zS ?_|refine zI ?_ ?_|refine zK (xz p.types[k].name hok.1) ?_|exact zF0|refine zD fun hb=>?_|exact zC|refine zT ?_|fail))
    .rw [zP hlk (typeS_bad hb)];rfl
    .have hto:=typeS_ok hb
     refine xn (fun n σ=>∃ j:Nat,j<=p.types[k].cons.length/\n=p.types[k].cons.length - j/\σ.t 1=.bx 1 0/\σ.b 1=some (.box [.sl 3 (p.types.map MType.enc),.sl 6 (p.nodes.map MNode.enc)])/\σ.t 26=.sl 3 (p.types.map MType.enc)/\σ.t 27=.s (.int .i64 p.types.length)/\σ.t 28=.s (.int .i64 k) /\
      σ.t 4=.bx 4 0/\σ.b 4=some (.box [.s (.string p.types[k].name),.s (.int .i64 p.types[k].params),.sl 3 (p.types[k].cons.map MCon.enc)])/\σ.t 59=.sl 3 (p.types[k].cons.map MCon.enc)/\σ.t 60=.s (.int .i64 p.types[k].cons.length)/\σ.t 61=.s (.int .i64 j)/\∀ c∈p.types[k].cons.take j,yK p.types[k].params c=true) p.types[k].cons.length ⟨0,by omega,by omega,?_⟩ ?_
     .simp only [go_sem,simprocAttr,h1,hb1,h26,h27,h28,Int.natCast_succ,Int.natCast_zero]
      all_goals simp
     .rintro n σ ⟨j,hj,rfl,g1,gb1,g26,g27,g28,g4,gb4,g59,g60,g61,hno2⟩ K'' hK''
      by_cases hlj:j<p.types[k].cons.length
      .have gx:=xi MCon.enc p.types[k].cons j hlj
       have ge:=MCon.enc_eq p.types[k].cons[j];have hcn:=c_l04Con p.types[k].cons[j] p.types[k].params (hok.2.2 _ (List.getElem_mem hlj)) (hsm.2.2 _ (List.getElem_mem hlj));rw [ge] at hcn
       cases hq:yK p.types[k].params p.types[k].cons[j] with
       | false=>
        rw [hq] at hcn
        (have hWf:=w10 @g1 @gb1 @g26 @g27 @g28 @g4 @gb4 @g59 @g60 (ai @g61<|ai @gx<|@ge);repeat' (first|refine zS ?_|refine zI ?_ ?_|refine zK hcn ?_|exact zF0|refine zD fun hb=>?_|exact zC|refine zT ?_|fail))
        rw [zP hlk (by rw [hto];exact zP hlj hq)];rfl
       | true=>
        rw [hq] at hcn
        (have hWf:=w10 @g1 @gb1 @g26 @g27 @g28 @g4 @gb4 @g59 @g60 (ai @g61<|ai @gx<|@ge);repeat' (first|refine zS ?_|refine zI ?_ ?_|refine zK hcn ?_|exact zF0|refine zD fun hb=>?_|exact zC|refine zT ?_|fail))
        refine hK'' (p.types[k].cons.length - (j+1)) _ (by omega) ⟨j+1,by omega,rfl,?_⟩
        simp only [go_sem,simprocAttr,g1,gb1,g26,g27,g28,g4,gb4,g59,g60,Int.natCast_succ];exact xZ hlj hno2 hq
      .obtain rfl:j=p.types[k].cons.length:=by omega
       (have hWf:=w8 @g1 @gb1 @g26 @g27 @g28 @g59 @g60 @g61;repeat' (first|refine zS ?_|refine zI ?_ ?_|exact zF0|refine zD fun hb=>?_|exact zC|refine zT ?_|fail))
       refine hK (p.types.length - (k+1)) _ (by omega) ⟨k+1,by omega,rfl,?_⟩
       simp only [go_sem,simprocAttr,g1,gb1,g26,g27,g28,Int.natCast_succ,Int.natCast_zero];exact xZ hlk hno (by rw [hto];exact yp hno2)
   .obtain rfl:k=p.types.length:=by omega
    have hty:=yp hno;rw [hty,Bool.true_and];clear hK
    (have hWf:=w5 @h1 @hb1 @h26 @h27 @h28;repeat' (first|refine zS ?_|refine zI ?_ ?_|exact zF0|refine zD fun hb=>?_|exact zC|refine zT ?_|fail))
    refine xn (fun n σ=>∃ k:Nat,k<=p.nodes.length/\n=p.nodes.length - k/\σ.t 1=.bx 1 0/\σ.b 1=some (.box [.sl 3 (p.types.map MType.enc),.sl 6 (p.nodes.map MNode.enc)])/\σ.t 73=.sl 6 (p.nodes.map MNode.enc)/\σ.t 74=.s (.int .i64 p.nodes.length)/\σ.t 75=.s (.int .i64 k)/\∀ x∈p.nodes.take k,x9 p.nodes x=true) p.nodes.length ⟨0,by omega,by omega,?_⟩ ?_
    .simp only [go_sem,simprocAttr,h1,hb1,Int.natCast_succ,Int.natCast_zero]
     all_goals simp
    .rintro n σ ⟨k,hk,rfl,g1,gb1,g73,g74,g75,hno2⟩ K'' hK''
     by_cases hlj:k<p.nodes.length
     .have gx:=xi MNode.enc p.nodes k hlj
      have ge:=MNode.enc_eq p.nodes[k];have hcn:=c_l04Node p p.nodes[k] (o2 _ (List.getElem_mem hlj)) (s2.2 _ (List.getElem_mem hlj));rw [ge,MProgram.enc_eq] at hcn
      cases hq:x9 p.nodes p.nodes[k] with
      | false=>
       rw [hq] at hcn
       (have hWf:=w7 @g1 @gb1 @g73 @g74 @g75 @gx @ge;repeat' (first|refine zS ?_|refine zI ?_ ?_|refine zK hcn ?_|exact zF0|refine zD fun hb=>?_|exact zC|refine zT ?_|fail))
       rw [zP hlj hq];rfl
      | true=>
       rw [hq] at hcn
       (have hWf:=w7 @g1 @gb1 @g73 @g74 @g75 @gx @ge;repeat' (first|refine zS ?_|refine zI ?_ ?_|refine zK hcn ?_|exact zF0|refine zD fun hb=>?_|exact zC|refine zT ?_|fail))
       refine hK'' (p.nodes.length - (k+1)) _ (by omega) ⟨k+1,by omega,rfl,?_⟩
       simp only [go_sem,simprocAttr,g1,gb1,g73,g74,Int.natCast_succ];exact xZ hlj hno2 hq
     .obtain rfl:k=p.nodes.length:=by omega
      rw [yp hno2,Bool.true_and];have hcc:=c_l04NEnd p o2 (by omega) hkl p.nodes.length 0 (by omega) (by omega)
      have hor:yi (x7 p.nodes)=(endZ (pEnd (x7 p.nodes) p.nodes.length 0)==(p.nodes.length:Int)):=by
       rw [Ua];unfold yi;rw [show (x7 p.nodes).length=p.nodes.length by simp]
      have hcc:FT 50 [.ag [.sl 3 (p.types.map MType.enc),.sl 6 (p.nodes.map MNode.enc)],.s (.int .i64 0)] (fun r _=>r=.s (.int .i64 (endZ (pEnd (x7 p.nodes) p.nodes.length 0)))):=hcc
      (have hWf:=w5 @g1 @gb1 @g73 @g74 @g75;repeat' (first|refine zS ?_|refine zI ?_ ?_|refine zK hcc ?_|exact zF0|refine zD fun hb=>?_|exact zC|refine zT ?_|fail))
      rw [hor]
end
section
attribute [local go_sem] List.map_append
open Go.RowKit Arb
def cmpD(s:CS)(env:List ByteArray):List D:=[.osl 49 4 (s.ins.map MIns.enc),.osl 89 1 (s.pats.map MPat.own),.osl 9 1 (env.map stE),.s (.bool s.lost)]
theorem xB(s:CS)(env:List ByteArray):cmpD s env=[.osl 49 4 (s.ins.map MIns.enc),.osl 89 1 (s.pats.map MPat.own),.osl 9 1 (env.map stE),.s (.bool s.lost)]:=rfl
theorem WS{xs:List DPNode}{k:Nat}(h:k<xs.length):pnames (xs.take (k+1))=if xs[k].kind=2 then pnames (xs.take k)++[xs[k].s] else pnames (xs.take k):=by
 unfold pnames;rw [List.take_succ_eq_append_getElem h,List.filter_append,List.map_append]
 by_cases h2:xs[k].kind=2<;>simp [h2]
theorem XO(xs:List DPNode):(pnames xs).length<=xs.length:=by
 unfold pnames;rw [List.length_map];exact List.length_filter_le _ _
theorem UT(xs:List DPNode)(hl:xs.length<=1000000):FT 207 [.ag [.sl 4 (xs.map DPNode.enc)]] (fun r _=>r=.osl 9 1 ((pnames xs).map stE)):=by
 refine FI PM Tryz.func207 Tryz.ntmps207 [] rfl rfl ?_
 (have hWf:=f0;repeat' (first|refine zS ?_|refine zI ?_ ?_|exact zF0|refine zD fun hb=>?_|exact zC|refine zT ?_|fail))
 refine xn (fun n σ=>∃ k:Nat,k<=xs.length/\n=xs.length - k/\σ.t 3=.bs 6 1 (pnames (xs.take k)).length/\σ.b 6=some (.arr 9 1 ((pnames (xs.take k)).map stE))/\σ.t 8=.sl 4 (xs.map DPNode.enc)/\σ.t 9=.s (.int .i64 xs.length)/\σ.t 10=.s (.int .i64 k)) xs.length ⟨0,by omega,by omega,?_⟩ ?_
 .simp only [go_sem,simprocAttr,Int.natCast_zero,List.take_zero,pnames]
 .rintro n σ ⟨k,hk,rfl,h3,b6,h8,h9,h10⟩ K' hK
  by_cases hlt:k<xs.length
  .have hx:=xi DPNode.enc xs k hlt
   have he:=DPNode.enc_eq xs[k];have hpl:=XO (xs.take k);rw [List.length_take] at hpl
   have hs:=WS hlt
   by_cases h2:xs[k].kind=2
   .have e2:(xs[k].kind==2)=true:=by simpa using h2
    rw [if_pos h2] at hs
    (have hWf:=w8 @h3 @b6 @h8 @h9 @h10 @hx @he @e2;repeat' (first|refine zS ?_|refine zI ?_ ?_|exact zF0|refine zD fun hb=>?_|exact zC|refine zT ?_|fail))
    refine hK (xs.length - (k+1)) _ (by omega) ⟨k+1,by omega,rfl,?_⟩
    simp only [go_sem,simprocAttr,h3,b6,h8,h9,h10,Int.natCast_succ,hs,List.map_append,List.length_append,xH]
   .have e2:(xs[k].kind==2)=false:=by simpa using h2
    rw [if_neg h2] at hs
    (have hWf:=w8 @h3 @b6 @h8 @h9 @h10 @hx @he @e2;repeat' (first|refine zS ?_|refine zI ?_ ?_|exact zF0|refine zD fun hb=>?_|exact zC|refine zT ?_|fail))
    refine hK (xs.length - (k+1)) _ (by omega) ⟨k+1,by omega,rfl,?_⟩
    simp only [go_sem,simprocAttr,h3,b6,h8,h9,h10,Int.natCast_succ,hs]
  .obtain rfl:k=xs.length:=by omega
   rw [List.take_length] at h3 b6
   (have hWf:=w5 @h3 @b6 @h8 @h9 @h10;repeat' (first|refine zS ?_|refine zI ?_ ?_|exact zF0|refine zD fun hb=>?_|exact zC|refine zT ?_|fail))
theorem yJ(s:CS)(env:List ByteArray)(i:MIns)(hl:s.ins.length<=1000000):FT 56 [.opt (cmpD s env),.ag i.enc] (fun r o=>r=.s (.int .i64 s.ins.length)/\o=[.opt (cmpD (s.emit i) env),.un]):=by
 refine FI PM Tryz.func56 Tryz.ntmps56 [(1,9,[8],[(8,0)],(lin [8] [0,1,2,3,4,5,6,7,8]))] rfl rfl ?_
 (have hWf:=w5 @xB @MIns.enc_eq @Q7 @Yt @V7;repeat' (first|refine zS ?_|refine zI ?_ ?_|exact zF0|refine zD fun hb=>?_|exact zC|refine zT ?_|fail))
 exact xN (by push_cast;omega)
theorem setA_at{l:List MIns}{k:Nat}(h:k<l.length)(v:Int):setA l k v=l.set k ⟨l[k].op,v,l[k].b,l[k].s⟩:=by unfold setA;rw [List.getElem?_eq_getElem h]
theorem setB_at{l:List MIns}{k:Nat}(h:k<l.length)(v:Int):setB l k v=l.set k ⟨l[k].op,l[k].a,v,l[k].s⟩:=by unfold setB;rw [List.getElem?_eq_getElem h]
theorem X0(s:CS)(env:List ByteArray)(k:Nat)(hk:k<s.ins.length)(hl:s.ins.length<=1000000):FT 136 [.opt (cmpD s env),.s (.int .i64 k)] (fun r o=>r=.tup []/\o=[.opt (cmpD (s.here k) env),.un]):=by
 have hx:=xi MIns.enc s.ins k hk;have he:=MIns.enc_eq s.ins[k];have hst:(s.ins.map MIns.enc).set k [.s (.int .i64 s.ins[k].op),.s (.int .i64 s.ins.length),.s (.int .i64 s.ins[k].b),.s (.string s.ins[k].s)]=(s.here k).ins.map MIns.enc:=by
  show _=(setA s.ins k s.ins.length).map MIns.enc;rw [setA_at hk,List.map_set];rfl
 refine FI PM Tryz.func136 Tryz.ntmps136 [(0,12,[],[],(lin [] [0,1,2,3,4,5,6,7,8,9,10,11]))] rfl rfl ?_
 (have hWf:=w7 @xB @hx @he @hst @ZW @ZV @yc;repeat' (first|refine zS ?_|refine zI ?_ ?_|exact zF0|refine zD fun hb=>?_|exact zC|refine zT ?_|fail))
 all_goals rfl
theorem take_rev{α:Type}{l:List α}{q:Nat}(h:q<l.length):(l.take (q+1)).reverse=l[q]::(l.take q).reverse:=by
 rw [List.take_succ_eq_append_getElem h,List.reverse_append];rfl
theorem xbX{x:ByteArray}{env:List ByteArray}{a:Nat}(s:CS)(h:varA env x=some a):zR x env s=s.emit ⟨6,a,0,eS⟩:=by unfold zR;rw [h]
theorem xbW{x:ByteArray}{env:List ByteArray}(s:CS)(h:varA env x=none):zR x env s=⟨s.ins++[⟨7,0,0,x⟩],s.pats,s.lost||!yR x⟩:=by unfold zR;rw [h]
def lostC(s:CS)(b:Bool):CS:=⟨s.ins,s.pats,b⟩
theorem c_name(s:CS)(env:List ByteArray)(x:ByteArray)(hl:s.ins.length<=1000000)(hle:env.length<=1000000):FT 133 [.opt (cmpD s env),.s (.string x)] (fun r o=>r=.tup []/\o=[.opt (cmpD (zR x env s) env),.un]):=by
 refine FI PM Tryz.func133 Tryz.ntmps133 [] rfl rfl ?_
 (have hWf:=w1 @xB;repeat' (first|refine zS ?_|refine zI ?_ ?_|exact zF0|refine zD fun hb=>?_|exact zC|refine zT ?_|fail))
 refine xn (fun n σ=>n<=env.length/\idxR x env.reverse 0=idxR x (env.take n).reverse (env.length - n)/\σ.t 0=.bx 900000 0/\σ.t 1=.s (.string x)/\σ.t 4=.s (.int .i64 ((n:Int) - 1)) /\
  σ.b 900000=some (.box [.bs 1900000 4 s.ins.length,.bs 2900000 1 s.pats.length,.bs 3900000 1 env.length,.s (.bool s.lost)])/\σ.b 1900000=some (.arr 49 4 (s.ins.map MIns.enc))/\σ.b 2900000=some (.arr 89 1 (s.pats.map MPat.own))/\σ.b 3900000=some (.arr 9 1 (env.map stE))) env.length ⟨Nat.le_refl _,?_,?_⟩ ?_
 .rw [List.take_length,Nat.sub_self]
 .simp only [go_sem,simprocAttr]
 .rintro n σ ⟨hn,hix,h0,h1,h4,b0,b1,b2,b3⟩ K' hK
  cases n with
  | zero=>
   have hno:varA env x=none:=by unfold varA;rw [hix];rfl
   have h4:σ.t 4=.s (.int .i64 (-1)):=h4;rw [xbW s hno];have hc:∀ b,FT 56 [.opt [.osl 49 4 (s.ins.map MIns.enc),.osl 89 1 (s.pats.map MPat.own),.osl 9 1 (env.map stE),.s (.bool b)],.ag (MIns.mk 7 0 0 x).enc] (fun r o=>r=.s (.int .i64 s.ins.length)/\o=[.opt [.osl 49 4 ((s.ins++[MIns.mk 7 0 0 x]).map MIns.enc),.osl 89 1 (s.pats.map MPat.own),.osl 9 1 (env.map stE),.s (.bool b)],.un]):=fun b=>yJ (lostC s b) env ⟨7,0,0,x⟩ hl
   cases hsl:s.lost with
   | true=>
    rw [hsl] at b0
    cases hg:yR x with
    | true=>
     obtain ⟨rows,hne,hgc⟩:=ZI x hg
     (have hWf:=w8 @h0 @h1 @h4 @b0 @b1 @b2 @b3 @hne;repeat' (first|refine zS ?_|refine zI ?_ ?_|refine zK hgc ?_|refine zH (hc true) ?_|exact zF0|refine zD fun hb=>?_|exact zC|refine zT ?_|fail))
     all_goals first|rfl|exact ⟨_,rfl⟩
    | false=>
     have hgc:=ZH x hg
     (have hWf:=w7 @h0 @h1 @h4 @b0 @b1 @b2 @b3;repeat' (first|refine zS ?_|refine zI ?_ ?_|refine zK hgc ?_|refine zH (hc true) ?_|exact zF0|refine zD fun hb=>?_|exact zC|refine zT ?_|fail))
     all_goals first|rfl|exact ⟨_,rfl⟩
   | false=>
    rw [hsl] at b0
    cases hg:yR x with
    | true=>
     obtain ⟨rows,hne,hgc⟩:=ZI x hg
     (have hWf:=w8 @h0 @h1 @h4 @b0 @b1 @b2 @b3 @hne;repeat' (first|refine zS ?_|refine zI ?_ ?_|refine zK hgc ?_|refine zH (hc false) ?_|exact zF0|refine zD fun hb=>?_|exact zC|refine zT ?_|fail))
     all_goals first|rfl|exact ⟨_,rfl⟩
    | false=>
     have hgc:=ZH x hg
     (have hWf:=w7 @h0 @h1 @h4 @b0 @b1 @b2 @b3;repeat' (first|refine zS ?_|refine zI ?_ ?_|refine zK hgc ?_|refine zH (hc true) ?_|exact zF0|refine zD fun hb=>?_|exact zC|refine zT ?_|fail))
     all_goals first|rfl|exact ⟨_,rfl⟩
  | succ q=>
   have hq:q<env.length:=by omega
   have h4:σ.t 4=.s (.int .i64 q):=by rw [h4];exact xN (by push_cast;omega)
   have hx:=xi stE env q hq;have he:=xH env[q];rw [take_rev hq] at hix
   have hc:=yJ s env ⟨6,(env.length:Int) - 1 - q,0,eS⟩ hl;rw [xB,xB] at hc
   by_cases hp:env[q]=x
   .have hp':=zN hp
    have hv:varA env x=some (env.length - (q+1)):=by unfold varA;rw [hix,idxR,if_pos hp]
    rw [xbX s hv]
    (have hWf:=w10 @h0 @h1 @h4 @b0 @b1 @b2 @b3 @hx @he @hp';repeat' (first|refine zS ?_|refine zI ?_ ?_|refine zH hc ?_|exact zF0|refine zD fun hb=>?_|exact zC|refine zT ?_|fail))
    have e:(env.length:Int) - 1 - q=((env.length - (q+1):Nat):Int):=by omega
    rw [e]
   .have hp':=zb hp
    (have hWf:=w10 @h0 @h1 @h4 @b0 @b1 @b2 @b3 @hx @he @hp';repeat' (first|refine zS ?_|refine zI ?_ ?_|exact zF0|refine zD fun hb=>?_|exact zC|refine zT ?_|fail))
    refine hK q _ (by omega) ⟨by omega,?_,?_⟩
    .rw [hix,idxR,if_neg hp]
     congr 1;omega
    .simp only [go_sem,simprocAttr,h0,h1,h4,b0,b1,b2,b3]
abbrev BdC(t:ET)(env:List ByteArray)(s:CS):Prop:=s.ins.length+4*t.size<=100000/\s.pats.length+2*t.size<=100000/\env.length+601*t.size<=1000000
def CE(t:ET):Prop:=∀ (env:List ByteArray) (s:CS),BdC t env s->FT 55 [.opt (cmpD s env),exE t] (fun r o=>r=.tup []/\o=[.opt (cmpD (cmp true t env s) env),.un])
theorem Xs{t:ET}(hE:CE t)(env names:List ByteArray)(s:CS)(hb:BdC t (env++names) s):FT 135 [.opt (cmpD s env),exE t,.sl 1 (names.map stE)] (fun r o=>r=.tup []/\o=[.opt (cmpD (cmp true t (env++names) s) env),.un,.un]):=by
 have hc:=hE (env++names) s hb;rw [xB,xB,List.map_append] at hc
 have hbl:=hb.2.2;rw [List.length_append] at hbl
 have htk:(env.map stE++names.map stE).take env.length=env.map stE:=List.take_left' (List.length_map ..);obtain ⟨a,l⟩:=t;rw [xW] at hc ⊢
 refine FI PM Tryz.func135 Tryz.ntmps135 [] rfl rfl ?_
 (have hWf:=w2 @xB @htk;repeat' (first|refine zS ?_|refine zI ?_ ?_|refine zH hc ?_|exact zF0|refine zD fun hb=>?_|exact zC|refine zT ?_|fail))
theorem UN{t:ET}(hE:CE t)(ht:okT t)(op:Int)(env names:List ByteArray)(s:CS)(hb:s.ins.length+4*t.size+8<=100000/\s.pats.length+2*t.size<=100000/\env.length+names.length+601*t.size<=1000000):FT 134 [.opt (cmpD s env),.s (.int .i64 op),exE t,.sl 1 (names.map stE)] (fun r o=>r=.tup []/\o=[.opt (cmpD (funC op (cmp true t) names env s) env),.un,.un,.un]):=by
 have hg:=xm true t ht;have g1:=hg.hi (env++names) (yz op s);have g2:=hg.lo (env++names) (yz op s);have gh:(yz op s).ins.length=s.ins.length+2:=by rw [yz,xk,xk]
 have c1:=yJ s env ⟨op,0,0,eS⟩ (by omega)
 have c2:=yJ (s.emit ⟨op,0,0,eS⟩) env ⟨12,0,0,eS⟩ (by rw [xk];omega)
 have c3:=X0 ((s.emit ⟨op,0,0,eS⟩).emit ⟨12,0,0,eS⟩) env s.ins.length (by rw [xk,xk];omega) (by rw [xk,xk];omega)
 have e3:((s.emit ⟨op,0,0,eS⟩).emit ⟨12,0,0,eS⟩).here s.ins.length=yz op s:=by
  unfold CS.here yz CS.emit;rw [setA_at (by simp)]
  simp
 rw [e3] at c3
 have c4:=Xs hE env names (yz op s) ⟨by omega,by have:=hb.2.1;exact this,by rw [List.length_append];omega⟩
 have c5:=yJ (cmp true t (env++names) (yz op s)) env ⟨11,0,0,eS⟩ (by omega)
 have c6:=X0 ((cmp true t (env++names) (yz op s)).emit ⟨11,0,0,eS⟩) env (s.ins.length+1) (by rw [xk];omega) (by rw [xk];omega)
 rw [xk] at c2
 obtain ⟨a,l⟩:=t;rw [xW] at c4 ⊢
 refine FI PM Tryz.func134 Tryz.ntmps134 [] rfl rfl ?_
 (have hWf:=w1 @xB;repeat' (first|refine zS ?_|refine zI ?_ ?_|refine zH c1 ?_|refine zH c2 ?_|refine zH c3 ?_|refine zH c4 ?_|refine zH c5 ?_|refine zH c6 ?_|exact zF0|refine zD fun hb=>?_|exact zC|refine zT ?_|fail))
 all_goals rfl
end
section
open Go.RowKit Arb
theorem uM(b:EI)(r:List ET):exS (.mk b r)=[.pt [.s (.int .i64 b.kind),.s (.int .i64 b.at_),.s (.int .i64 b.n),.s (.string b.s),.sl 1 (r.map exS),.sl 1 (b.pats.map MPat.enc)]]:=by show [exE _]=_;rw [xW]
theorem wU(a:EI)(l:List ET)(hk:1<=a.kind/\a.kind<=19)(hl:l.length<=1000000):FT 132 [exE (.mk a l)] (fun r _=>r=.ag (endI a l.length).enc):=by
 rw [xW];rcases (show a.kind=1\/a.kind=2\/a.kind=3\/a.kind=4\/a.kind=5\/a.kind=6\/a.kind=7\/a.kind=8\/a.kind=9\/a.kind=10\/a.kind=11\/a.kind=12\/a.kind=13\/a.kind=14\/a.kind=15\/a.kind=16\/a.kind=17\/a.kind=18\/a.kind=19 by omega) with k|k|k|k|k|k|k|k|k|k|k|k|k|k|k|k|k|k|k
 all_goals
  have e:endI a l.length=endI a l.length:=rfl
  conv at e=>rhs;unfold endI;simp only [k,Int.reduceEq,if_false,if_true,reduceIte]
  rw [e];clear hk;refine FI PM Tryz.func132 Tryz.ntmps132 [(17,9,[],[],(lin [] [0,1,2,3,4,5,6,7,8]))] rfl rfl ?_
  (have hWf:=w2 @k @MIns.enc_eq;repeat' (first|refine zS ?_|refine zI ?_ ?_|exact zF0|refine zD fun hb=>?_|exact zC|refine zT ?_|fail))
  all_goals first|rfl|skip
theorem stop_t{s:CS}(h:ya true s=true):s.lost=true\/(s.lost=false/\3000<s.ins.length):=by
 unfold ya at h
 simp only [Bool.true_and,Bool.or_eq_true,decide_eq_true_eq] at h
 cases hs:s.lost with
 | true=>exact .inl rfl
 | false=>
  rw [hs] at h
  rcases h with h|h
  .cases h
  .exact .inr ⟨rfl,h⟩
theorem vP{s:CS}(h:ya true s=false):s.lost=false/\s.ins.length<=3000:=by
 unfold ya at h
 simp only [Bool.true_and,Bool.or_eq_false_iff,decide_eq_false_iff_not] at h
 exact ⟨h.1,by omega⟩
theorem expr_stop(a:EI)(l:List ET)(env:List ByteArray)(s:CS)(hs:ya true s=true):FT 55 [.opt (cmpD s env),exE (.mk a l)] (fun r o=>r=.tup []/\o=[.opt (cmpD (cmp true (.mk a l) env s) env),.un]):=by
 rw [X2 hs,xW];rcases stop_t hs with h|⟨h,h3⟩
 .refine FI PM Tryz.func55 Tryz.ntmps55 [(14,12,[],[],(lin [] [0,1,2,3,4,5,6,7,8,9,10,11])),(16,26,[],[],(lin [] [0,1,2,3,4,5,6,7,8,9,10,11,12,13,14,15,16,17,18,19,20,21,22,23,24,25])),(17,12,[],[],(lin [] [0,1,2,3,4,5,6,7,8,9,10,11])),(26,12,[],[],(lin [] [0,1,2,3,4,5,6,7,8,9,10,11])),(42,12,[],[],(lin [] [0,1,2,3,4,5,6,7,8,9,10,11]))] rfl rfl ?_
  (have hWf:=w2 @xB @h;repeat' (first|refine zS ?_|refine zI ?_ ?_|exact zF0|refine zD fun hb=>?_|exact zC|refine zT ?_|fail))
  all_goals rfl
 .refine FI PM Tryz.func55 Tryz.ntmps55 [(14,12,[],[],(lin [] [0,1,2,3,4,5,6,7,8,9,10,11])),(16,26,[],[],(lin [] [0,1,2,3,4,5,6,7,8,9,10,11,12,13,14,15,16,17,18,19,20,21,22,23,24,25])),(17,12,[],[],(lin [] [0,1,2,3,4,5,6,7,8,9,10,11])),(26,12,[],[],(lin [] [0,1,2,3,4,5,6,7,8,9,10,11])),(42,12,[],[],(lin [] [0,1,2,3,4,5,6,7,8,9,10,11]))] rfl rfl ?_
  (have hWf:=w2 @xB @h;repeat' (first|refine zS ?_|refine zI ?_ ?_|exact zF0|refine zD fun hb=>?_|exact zC|refine zT ?_|fail))
  all_goals rfl
theorem xbS(chk:Bool){l:List ET}{k:Nat}(h:k<l.length)(env:List ByteArray)(s:CS):x6 ((l.take (k+1)).map (cmp chk)) env s=cmp chk l[k] env (x6 ((l.take k).map (cmp chk)) env s):=by
 unfold x6;rw [List.take_succ_eq_append_getElem h,List.map_append,List.foldl_append];rfl
theorem WV{l:List ET}{k:Nat}(h:k<l.length):sizeL (l.take k)+l[k].size<=sizeL l:=by
 have:=List.take_append_drop k l;have e:=congrArg sizeL this;rw [sizeL_app,List.drop_eq_getElem_cons h,sizeL_cons] at e
 omega
theorem zg(a:EI)(l:List ET)(ok:okT (.mk a l))(ih:∀ t∈l,CE t)(env:List ByteArray)(s:CS)(hb:BdC (.mk a l) env s)(hs:ya true s=false)(he:endK a.kind=true):FT 55 [.opt (cmpD s env),exE (.mk a l)] (fun r o=>r=.tup []/\o=[.opt (cmpD (cmp true (.mk a l) env s) env),.un]):=by
 obtain ⟨hl,h3⟩:=vP hs;have hce:=wU a l (kind_of ok.root) (by have:=sizeL_len l;have:=hb.1;rw [size_mk] at this;omega)
 rw [wg hs he,xW];rw [xW] at hce
 have hne:(endI a l.length).op≠0:=by
  unfold endK at he
  simp only [Bool.or_eq_true,beq_iff_eq] at he
  rcases he with (((((((((k|k)|k)|k)|k)|k)|k)|k)|k)|k)|k<;>(unfold endI;simp [k])
 have hee:=MIns.enc_eq (endI a l.length);have hop:((endI a l.length).op != 0)=true:=by simpa using hne
 have hgr:=fun (k:Nat) (h:k<=l.length)=>Wu true (l.take k) fun t ht=>xm true t (ok.kid t (List.mem_of_mem_take ht))
 obtain ⟨b1,b2,b3⟩:=hb;rw [size_mk] at b1 b2 b3
 have hsl:=sizeL_len l;refine FI PM Tryz.func55 Tryz.ntmps55 [(14,12,[],[],(lin [] [0,1,2,3,4,5,6,7,8,9,10,11])),(16,26,[],[],(lin [] [0,1,2,3,4,5,6,7,8,9,10,11,12,13,14,15,16,17,18,19,20,21,22,23,24,25])),(17,12,[],[],(lin [] [0,1,2,3,4,5,6,7,8,9,10,11])),(26,12,[],[],(lin [] [0,1,2,3,4,5,6,7,8,9,10,11])),(42,12,[],[],(lin [] [0,1,2,3,4,5,6,7,8,9,10,11]))] rfl rfl ?_
 (have hWf:=w4 @xB @hl @hee @hop;repeat' (first|refine zS ?_|refine zI ?_ ?_|refine zK hce ?_|exact zF0|refine zD fun hb=>?_|exact zC|refine zT ?_|fail))
 refine xn (fun n σ=>∃ k:Nat,k<=l.length/\n=l.length - k/\σ.t 0=.bx 900000 0/\σ.t 4=.bx 4 0/\σ.t 35=.sl 1 (l.map exS)/\σ.t 36=.s (.int .i64 l.length)/\σ.t 37=.s (.int .i64 k)/\σ.b 4=some (.box [.s (.int .i64 (endI a l.length).op),.s (.int .i64 (endI a l.length).a),.s (.int .i64 (endI a l.length).b),.s (.string (endI a l.length).s)]) /\
  σ.b 900000=some (.box [.bs 1900000 4 (x6 ((l.take k).map (cmp true)) env s).ins.length,.bs 2900000 1 (x6 ((l.take k).map (cmp true)) env s).pats.length,.bs 3900000 1 env.length,.s (.bool (x6 ((l.take k).map (cmp true)) env s).lost)])/\σ.b 1900000=some (.arr 49 4 ((x6 ((l.take k).map (cmp true)) env s).ins.map MIns.enc))/\σ.b 2900000=some (.arr 89 1 ((x6 ((l.take k).map (cmp true)) env s).pats.map MPat.own))/\σ.b 3900000=some (.arr 9 1 (env.map stE))) l.length ⟨0,by omega,by omega,?_⟩ ?_
 .simp only [go_sem,simprocAttr,Int.natCast_zero,List.take_zero,List.map_nil,x6,List.foldl_nil,hl]
 .rintro n σ ⟨k,hk,rfl,h0,h4,h35,h36,h37,c4,c0,c1,c2,c3⟩ K' hK
  by_cases hlt:k<l.length
  .have hx:=xi exS l k hlt
   obtain ⟨b,r,hbr⟩:∃ b r,l[k]=.mk b r:=⟨_,_,Arb.eta _⟩;have hex:exS l[k]=[.pt [.s (.int .i64 b.kind),.s (.int .i64 b.at_),.s (.int .i64 b.n),.s (.string b.s),.sl 1 (r.map exS),.sl 1 (b.pats.map MPat.enc)]]:=by rw [hbr,uM]
   have hst:=xbS true hlt env s;have g:=hgr k hk;have g1:=g.hi env s;have g2:=g.phi env s;have hsp:=WV hlt;have hc:=ih l[k] (List.getElem_mem hlt) env (x6 ((l.take k).map (cmp true)) env s) ⟨by omega,by omega,by omega⟩
   rw [<- hst] at hc
   have hce:exE l[k]=.pt [.s (.int .i64 b.kind),.s (.int .i64 b.at_),.s (.int .i64 b.n),.s (.string b.s),.sl 1 (r.map exS),.sl 1 (b.pats.map MPat.enc)]:=by rw [hbr,xW]
   rw [hce] at hc
   (have hWf:=w10 @xB @h0 @h4 @h35 @h36 @h37 @c4 @c0 @c1 (ai @c2<|ai @c3<|ai @hx<|@hex);repeat' (first|refine zS ?_|refine zI ?_ ?_|refine zH hc ?_|exact zF0|refine zD fun hb=>?_|exact zC|refine zT ?_|fail))
   refine hK (l.length - (k+1)) _ (by omega) ⟨k+1,by omega,rfl,?_⟩
   simp only [go_sem,simprocAttr,h0,h4,h35,h36,h37,c4,c0,c1,c2,c3,Int.natCast_succ,xB]
  .obtain rfl:k=l.length:=by omega
   have g:=(hgr l.length hk).hi env s;rw [List.take_length] at c0 c1 c2 g
   have hc:=yJ (x6 (l.map (cmp true)) env s) env (endI a l.length) (by omega)
   rw [hee] at hc
   (have hWf:=w10 @xB @h0 @h4 @h35 @h36 @h37 @c4 @c0 @c1 (ai @c2<|@c3);repeat' (first|refine zS ?_|refine zI ?_ ?_|refine zH hc ?_|exact zF0|refine zD fun hb=>?_|exact zC|refine zT ?_|fail))
theorem expr_func(a:EI)(x:ET)(ix:CE x)(ox:okT x)(env:List ByteArray)(s0:CS)(hb:BdC (.mk a [x]) env s0)(hs:ya true s0=false)(k:a.kind=5):FT 55 [.opt (cmpD s0 env),exE (.mk a [x])] (fun r o=>r=.tup []/\o=[.opt (cmpD (cmp true (.mk a [x]) env s0) env),.un]):=by
 obtain ⟨hl,h3⟩:=vP hs;have hce:=wU a [x] (by omega) (by simp)
 have hee:∀ n,(endI a n).enc=[.s (.int .i64 0),.s (.int .i64 0),.s (.int .i64 0),.s (.string eS)]:=fun n=>by unfold endI;simp [k,MIns.enc]
 obtain ⟨b1,b2,b3⟩:=hb;simp only [size_mk,sizeL_cons,sizeL_nil] at b1 b2 b3
 have zx:=size_pos x;rw [vk hs k];have c1:=UN ix ox 8 env [a.s] s0 ⟨by omega,by omega,by simp only [List.length_cons,List.length_nil];omega⟩
 have q1:=And.intro ((wi (xm true x ox) 8 [a.s]).lo env s0) (And.intro ((wi (xm true x ox) 8 [a.s]).hi env s0) ((wi (xm true x ox) 8 [a.s]).phi env s0));obtain ⟨s1,h1⟩:∃ q,q=funC 8 (cmp true x) [a.s] env s0:=⟨_,rfl⟩;rw [<- h1] at c1 q1
 have hf:funC 8 (cmp true x) [a.s] env s0=s1:=by rw [h1]
 rw [hf];clear hf h1;obtain ⟨gx,rx⟩:=x;simp only [xW,List.map_cons,List.map_nil,uM] at hce ⊢
 simp only [xW,List.map_cons,List.map_nil,xH] at c1
 rw [k] at hce
 simp only [xB s0 env,hl] at c1
 refine FI PM Tryz.func55 Tryz.ntmps55 [(14,12,[],[],(lin [] [0,1,2,3,4,5,6,7,8,9,10,11])),(16,26,[],[],(lin [] [0,1,2,3,4,5,6,7,8,9,10,11,12,13,14,15,16,17,18,19,20,21,22,23,24,25])),(17,12,[],[],(lin [] [0,1,2,3,4,5,6,7,8,9,10,11])),(26,12,[],[],(lin [] [0,1,2,3,4,5,6,7,8,9,10,11])),(42,12,[],[],(lin [] [0,1,2,3,4,5,6,7,8,9,10,11]))] rfl rfl ?_
 (have hWf:=w5 @xB @hl @hee @k @xH;repeat' (first|refine zS ?_|refine zI ?_ ?_|refine zK hce ?_|refine zH c1 ?_|exact zF0|refine zD fun hb=>?_|exact zC|refine zT ?_|fail))
 all_goals first|rfl|skip
theorem expr_rec_(a:EI)(b:EI)(x y:ET)(ix:CE x)(ox:okT x)(iy:CE y)(oy:okT y)(env:List ByteArray)(s0:CS)(hb:BdC (.mk a [.mk b [x],y]) env s0)(hs:ya true s0=false)(k:a.kind=8):FT 55 [.opt (cmpD s0 env),exE (.mk a [.mk b [x],y])] (fun r o=>r=.tup []/\o=[.opt (cmpD (cmp true (.mk a [.mk b [x],y]) env s0) env),.un]):=by
 obtain ⟨hl,h3⟩:=vP hs;have hce:=wU a [.mk b [x],y] (by omega) (by simp)
 have hee:∀ n,(endI a n).enc=[.s (.int .i64 0),.s (.int .i64 0),.s (.int .i64 0),.s (.string eS)]:=fun n=>by unfold endI;simp [k,MIns.enc]
 obtain ⟨b1,b2,b3⟩:=hb;simp only [size_mk,sizeL_cons,sizeL_nil] at b1 b2 b3
 have zx:=size_pos x;have zy:=size_pos y;rw [vn hs k];have c1:=UN ix ox 9 env [a.s,b.s] s0 ⟨by omega,by omega,by simp only [List.length_cons,List.length_nil];omega⟩
 have q1:=And.intro ((wi (xm true x ox) 9 [a.s,b.s]).lo env s0) (And.intro ((wi (xm true x ox) 9 [a.s,b.s]).hi env s0) ((wi (xm true x ox) 9 [a.s,b.s]).phi env s0));obtain ⟨s1,h1⟩:∃ q,q=funC 9 (cmp true x) [a.s,b.s] env s0:=⟨_,rfl⟩;rw [<- h1] at c1 q1
 have c2:=Xs iy env [a.s] s1 ⟨by omega,by omega,by rw [List.length_append];simp only [List.length_cons,List.length_nil];omega⟩
 have q2:=And.intro ((xm true y oy).lo (env++[a.s]) s1) (And.intro ((xm true y oy).hi (env++[a.s]) s1) ((xm true y oy).phi (env++[a.s]) s1));obtain ⟨s2,h2⟩:∃ q,q=cmp true y (env++[a.s]) s1:=⟨_,rfl⟩;rw [<- h2] at c2 q2
 have c3:=yJ s2 env ⟨15,1,0,eS⟩ (by omega)
 have q3:(s2.emit ⟨15,1,0,eS⟩).ins.length=s2.ins.length+1/\(s2.emit ⟨15,1,0,eS⟩).pats.length=s2.pats.length:=⟨xk _ _,rfl⟩;obtain ⟨s3,h3⟩:∃ q,q=s2.emit ⟨15,1,0,eS⟩:=⟨_,rfl⟩;rw [<- h3] at c3 q3
 have hf:(cmp true y (env++[a.s]) (funC 9 (cmp true x) [a.s,b.s] env s0)).emit ⟨15,1,0,eS⟩=s3:=by rw [h3,h2,h1]
 rw [hf];clear hf h1 h2 h3;obtain ⟨gx,rx⟩:=x;obtain ⟨gy,ry⟩:=y;simp only [xW,List.map_cons,List.map_nil,uM] at hce ⊢
 simp only [xW,List.map_cons,List.map_nil,xH] at c1
 simp only [xW,List.map_cons,List.map_nil,xH] at c2
 rw [k] at hce
 simp only [xB s0 env,hl] at c1
 refine FI PM Tryz.func55 Tryz.ntmps55 [(14,12,[],[],(lin [] [0,1,2,3,4,5,6,7,8,9,10,11])),(16,26,[],[],(lin [] [0,1,2,3,4,5,6,7,8,9,10,11,12,13,14,15,16,17,18,19,20,21,22,23,24,25])),(17,12,[],[],(lin [] [0,1,2,3,4,5,6,7,8,9,10,11])),(26,12,[],[],(lin [] [0,1,2,3,4,5,6,7,8,9,10,11])),(42,12,[],[],(lin [] [0,1,2,3,4,5,6,7,8,9,10,11]))] rfl rfl ?_
 (have hWf:=w5 @xB @hl @hee @k @xH;repeat' (first|refine zS ?_|refine zI ?_ ?_|refine zK hce ?_|refine zH c1 ?_|refine zH c2 ?_|refine zH c3 ?_|exact zF0|refine zD fun hb=>?_|exact zC|refine zT ?_|fail))
 all_goals first|rfl|skip
theorem expr_seq(a:EI)(x y:ET)(ix:CE x)(ox:okT x)(iy:CE y)(oy:okT y)(env:List ByteArray)(s0:CS)(hb:BdC (.mk a [x,y]) env s0)(hs:ya true s0=false)(k:a.kind=19):FT 55 [.opt (cmpD s0 env),exE (.mk a [x,y])] (fun r o=>r=.tup []/\o=[.opt (cmpD (cmp true (.mk a [x,y]) env s0) env),.un]):=by
 obtain ⟨hl,h3⟩:=vP hs;have hce:=wU a [x,y] (by omega) (by simp)
 have hee:∀ n,(endI a n).enc=[.s (.int .i64 0),.s (.int .i64 0),.s (.int .i64 0),.s (.string eS)]:=fun n=>by unfold endI;simp [k,MIns.enc]
 obtain ⟨b1,b2,b3⟩:=hb;simp only [size_mk,sizeL_cons,sizeL_nil] at b1 b2 b3
 have zx:=size_pos x;have zy:=size_pos y;rw [vo hs k];have c1:=ix env s0 ⟨by omega,by omega,by omega⟩
 have q1:=And.intro ((xm true x ox).lo env s0) (And.intro ((xm true x ox).hi env s0) ((xm true x ox).phi env s0));obtain ⟨s1,h1⟩:∃ q,q=cmp true x env s0:=⟨_,rfl⟩;rw [<- h1] at c1 q1
 have c2:=yJ s1 env ⟨25,0,0,eS⟩ (by omega)
 have q2:(s1.emit ⟨25,0,0,eS⟩).ins.length=s1.ins.length+1/\(s1.emit ⟨25,0,0,eS⟩).pats.length=s1.pats.length:=⟨xk _ _,rfl⟩;obtain ⟨s2,h2⟩:∃ q,q=s1.emit ⟨25,0,0,eS⟩:=⟨_,rfl⟩;rw [<- h2] at c2 q2
 have c3:=iy env s2 ⟨by omega,by omega,by omega⟩
 have q3:=And.intro ((xm true y oy).lo env s2) (And.intro ((xm true y oy).hi env s2) ((xm true y oy).phi env s2));obtain ⟨s3,h3⟩:∃ q,q=cmp true y env s2:=⟨_,rfl⟩;rw [<- h3] at c3 q3
 have hf:cmp true y env ((cmp true x env s0).emit ⟨25,0,0,eS⟩)=s3:=by rw [h3,h2,h1]
 rw [hf];clear hf h1 h2 h3;obtain ⟨gx,rx⟩:=x;obtain ⟨gy,ry⟩:=y;simp only [xW,List.map_cons,List.map_nil,uM] at hce ⊢
 simp only [xW,List.map_cons,List.map_nil,xH] at c1
 simp only [xW,List.map_cons,List.map_nil,xH] at c3
 rw [k] at hce
 simp only [xB s0 env,hl] at c1
 refine FI PM Tryz.func55 Tryz.ntmps55 [(14,12,[],[],(lin [] [0,1,2,3,4,5,6,7,8,9,10,11])),(16,26,[],[],(lin [] [0,1,2,3,4,5,6,7,8,9,10,11,12,13,14,15,16,17,18,19,20,21,22,23,24,25])),(17,12,[],[],(lin [] [0,1,2,3,4,5,6,7,8,9,10,11])),(26,12,[],[],(lin [] [0,1,2,3,4,5,6,7,8,9,10,11])),(42,12,[],[],(lin [] [0,1,2,3,4,5,6,7,8,9,10,11]))] rfl rfl ?_
 (have hWf:=w5 @xB @hl @hee @k @xH;repeat' (first|refine zS ?_|refine zI ?_ ?_|refine zK hce ?_|refine zH c1 ?_|refine zH c2 ?_|refine zH c3 ?_|exact zF0|refine zD fun hb=>?_|exact zC|refine zT ?_|fail))
 all_goals first|rfl|skip
theorem expr_let_(a:EI)(x y:ET)(ix:CE x)(ox:okT x)(iy:CE y)(oy:okT y)(env:List ByteArray)(s0:CS)(hb:BdC (.mk a [x,y]) env s0)(hs:ya true s0=false)(k:a.kind=7):FT 55 [.opt (cmpD s0 env),exE (.mk a [x,y])] (fun r o=>r=.tup []/\o=[.opt (cmpD (cmp true (.mk a [x,y]) env s0) env),.un]):=by
 obtain ⟨hl,h3⟩:=vP hs;have hce:=wU a [x,y] (by omega) (by simp)
 have hee:∀ n,(endI a n).enc=[.s (.int .i64 0),.s (.int .i64 0),.s (.int .i64 0),.s (.string eS)]:=fun n=>by unfold endI;simp [k,MIns.enc]
 obtain ⟨b1,b2,b3⟩:=hb;simp only [size_mk,sizeL_cons,sizeL_nil] at b1 b2 b3
 have zx:=size_pos x;have zy:=size_pos y;rw [vl hs k];have c1:=ix env s0 ⟨by omega,by omega,by omega⟩
 have q1:=And.intro ((xm true x ox).lo env s0) (And.intro ((xm true x ox).hi env s0) ((xm true x ox).phi env s0));obtain ⟨s1,h1⟩:∃ q,q=cmp true x env s0:=⟨_,rfl⟩;rw [<- h1] at c1 q1
 have c2:=yJ s1 env ⟨14,0,0,eS⟩ (by omega)
 have q2:(s1.emit ⟨14,0,0,eS⟩).ins.length=s1.ins.length+1/\(s1.emit ⟨14,0,0,eS⟩).pats.length=s1.pats.length:=⟨xk _ _,rfl⟩;obtain ⟨s2,h2⟩:∃ q,q=s1.emit ⟨14,0,0,eS⟩:=⟨_,rfl⟩;rw [<- h2] at c2 q2
 have c3:=Xs iy env [a.s] s2 ⟨by omega,by omega,by rw [List.length_append];simp only [List.length_cons,List.length_nil];omega⟩
 have q3:=And.intro ((xm true y oy).lo (env++[a.s]) s2) (And.intro ((xm true y oy).hi (env++[a.s]) s2) ((xm true y oy).phi (env++[a.s]) s2));obtain ⟨s3,h3⟩:∃ q,q=cmp true y (env++[a.s]) s2:=⟨_,rfl⟩;rw [<- h3] at c3 q3
 have c4:=yJ s3 env ⟨15,1,0,eS⟩ (by omega)
 have q4:(s3.emit ⟨15,1,0,eS⟩).ins.length=s3.ins.length+1/\(s3.emit ⟨15,1,0,eS⟩).pats.length=s3.pats.length:=⟨xk _ _,rfl⟩;obtain ⟨s4,h4⟩:∃ q,q=s3.emit ⟨15,1,0,eS⟩:=⟨_,rfl⟩;rw [<- h4] at c4 q4
 have hf:(cmp true y (env++[a.s]) ((cmp true x env s0).emit ⟨14,0,0,eS⟩)).emit ⟨15,1,0,eS⟩=s4:=by rw [h4,h3,h2,h1]
 rw [hf];clear hf h1 h2 h3 h4;obtain ⟨gx,rx⟩:=x;obtain ⟨gy,ry⟩:=y;simp only [xW,List.map_cons,List.map_nil,uM] at hce ⊢
 simp only [xW,List.map_cons,List.map_nil,xH] at c1
 simp only [xW,List.map_cons,List.map_nil,xH] at c3
 rw [k] at hce
 simp only [xB s0 env,hl] at c1
 refine FI PM Tryz.func55 Tryz.ntmps55 [(14,12,[],[],(lin [] [0,1,2,3,4,5,6,7,8,9,10,11])),(16,26,[],[],(lin [] [0,1,2,3,4,5,6,7,8,9,10,11,12,13,14,15,16,17,18,19,20,21,22,23,24,25])),(17,12,[],[],(lin [] [0,1,2,3,4,5,6,7,8,9,10,11])),(26,12,[],[],(lin [] [0,1,2,3,4,5,6,7,8,9,10,11])),(42,12,[],[],(lin [] [0,1,2,3,4,5,6,7,8,9,10,11]))] rfl rfl ?_
 (have hWf:=w5 @xB @hl @hee @k @xH;repeat' (first|refine zS ?_|refine zI ?_ ?_|refine zK hce ?_|refine zH c1 ?_|refine zH c2 ?_|refine zH c3 ?_|refine zH c4 ?_|exact zF0|refine zD fun hb=>?_|exact zC|refine zT ?_|fail))
 all_goals first|rfl|skip
theorem expr_if_(a:EI)(x y z:ET)(ix:CE x)(ox:okT x)(iy:CE y)(oy:okT y)(iz:CE z)(oz:okT z)(env:List ByteArray)(s0:CS)(hb:BdC (.mk a [x,y,z]) env s0)(hs:ya true s0=false)(k:a.kind=9):FT 55 [.opt (cmpD s0 env),exE (.mk a [x,y,z])] (fun r o=>r=.tup []/\o=[.opt (cmpD (cmp true (.mk a [x,y,z]) env s0) env),.un]):=by
 obtain ⟨hl,h3⟩:=vP hs;have hce:=wU a [x,y,z] (by omega) (by simp)
 have hee:∀ n,(endI a n).enc=[.s (.int .i64 0),.s (.int .i64 0),.s (.int .i64 0),.s (.string eS)]:=fun n=>by unfold endI;simp [k,MIns.enc]
 obtain ⟨b1,b2,b3⟩:=hb;simp only [size_mk,sizeL_cons,sizeL_nil] at b1 b2 b3
 have zx:=size_pos x;have zy:=size_pos y;have zz:=size_pos z;rw [Xu hs k];have c1:=ix env s0 ⟨by omega,by omega,by omega⟩
 have q1:=And.intro ((xm true x ox).lo env s0) (And.intro ((xm true x ox).hi env s0) ((xm true x ox).phi env s0));obtain ⟨s1,h1⟩:∃ q,q=cmp true x env s0:=⟨_,rfl⟩;rw [<- h1] at c1 q1
 have c2:=yJ s1 env ⟨13,0,0,eS⟩ (by omega)
 have q2:(s1.emit ⟨13,0,0,eS⟩).ins.length=s1.ins.length+1/\(s1.emit ⟨13,0,0,eS⟩).pats.length=s1.pats.length:=⟨xk _ _,rfl⟩;obtain ⟨s2,h2⟩:∃ q,q=s1.emit ⟨13,0,0,eS⟩:=⟨_,rfl⟩;rw [<- h2] at c2 q2
 have c3:=iy env s2 ⟨by omega,by omega,by omega⟩
 have q3:=And.intro ((xm true y oy).lo env s2) (And.intro ((xm true y oy).hi env s2) ((xm true y oy).phi env s2));obtain ⟨s3,h3⟩:∃ q,q=cmp true y env s2:=⟨_,rfl⟩;rw [<- h3] at c3 q3
 have c4:=yJ s3 env ⟨12,0,0,eS⟩ (by omega)
 have q4:(s3.emit ⟨12,0,0,eS⟩).ins.length=s3.ins.length+1/\(s3.emit ⟨12,0,0,eS⟩).pats.length=s3.pats.length:=⟨xk _ _,rfl⟩;obtain ⟨s4,h4⟩:∃ q,q=s3.emit ⟨12,0,0,eS⟩:=⟨_,rfl⟩;rw [<- h4] at c4 q4
 have c5:=X0 s4 env s1.ins.length (by omega) (by omega)
 have q5:(s4.here s1.ins.length).ins.length=s4.ins.length/\(s4.here s1.ins.length).pats.length=s4.pats.length:=⟨yc _ _,rfl⟩;obtain ⟨s5,h5⟩:∃ q,q=s4.here s1.ins.length:=⟨_,rfl⟩;rw [<- h5] at c5 q5
 have c6:=iz env s5 ⟨by omega,by omega,by omega⟩
 have q6:=And.intro ((xm true z oz).lo env s5) (And.intro ((xm true z oz).hi env s5) ((xm true z oz).phi env s5));obtain ⟨s6,h6⟩:∃ q,q=cmp true z env s5:=⟨_,rfl⟩;rw [<- h6] at c6 q6
 have c7:=X0 s6 env s3.ins.length (by omega) (by omega)
 have q7:(s6.here s3.ins.length).ins.length=s6.ins.length/\(s6.here s3.ins.length).pats.length=s6.pats.length:=⟨yc _ _,rfl⟩;obtain ⟨s7,h7⟩:∃ q,q=s6.here s3.ins.length:=⟨_,rfl⟩;rw [<- h7] at c7 q7
 have hf:ifC (cmp true x) (cmp true y) (cmp true z) env s0=s7:=by rw [h7,h6,h5,h4,h3,h2,h1];rfl
 rw [hf];clear hf h1 h2 h3 h4 h5 h6 h7;obtain ⟨gx,rx⟩:=x;obtain ⟨gy,ry⟩:=y;obtain ⟨gz,rz⟩:=z;simp only [xW,List.map_cons,List.map_nil,uM] at hce ⊢
 simp only [xW,List.map_cons,List.map_nil,xH] at c1
 simp only [xW,List.map_cons,List.map_nil,xH] at c3
 simp only [xW,List.map_cons,List.map_nil,xH] at c6
 rw [k] at hce
 simp only [xB s0 env,hl] at c1
 refine FI PM Tryz.func55 Tryz.ntmps55 [(14,12,[],[],(lin [] [0,1,2,3,4,5,6,7,8,9,10,11])),(16,26,[],[],(lin [] [0,1,2,3,4,5,6,7,8,9,10,11,12,13,14,15,16,17,18,19,20,21,22,23,24,25])),(17,12,[],[],(lin [] [0,1,2,3,4,5,6,7,8,9,10,11])),(26,12,[],[],(lin [] [0,1,2,3,4,5,6,7,8,9,10,11])),(42,12,[],[],(lin [] [0,1,2,3,4,5,6,7,8,9,10,11]))] rfl rfl ?_
 (have hWf:=w5 @xB @hl @hee @k @xH;repeat' (first|refine zS ?_|refine zI ?_ ?_|refine zK hce ?_|refine zH c1 ?_|refine zH c2 ?_|refine zH c3 ?_|refine zH c4 ?_|refine zH c5 ?_|refine zH c6 ?_|refine zH c7 ?_|exact zF0|refine zD fun hb=>?_|exact zC|refine zT ?_|fail))
 all_goals first|rfl|skip
theorem expr_try_(a:EI)(x y:ET)(ix:CE x)(ox:okT x)(iy:CE y)(oy:okT y)(env:List ByteArray)(s0:CS)(hb:BdC (.mk a [x,y]) env s0)(hs:ya true s0=false)(k:a.kind=15):FT 55 [.opt (cmpD s0 env),exE (.mk a [x,y])] (fun r o=>r=.tup []/\o=[.opt (cmpD (cmp true (.mk a [x,y]) env s0) env),.un]):=by
 obtain ⟨hl,h3⟩:=vP hs;have hce:=wU a [x,y] (by omega) (by simp)
 have hee:∀ n,(endI a n).enc=[.s (.int .i64 0),.s (.int .i64 0),.s (.int .i64 0),.s (.string eS)]:=fun n=>by unfold endI;simp [k,MIns.enc]
 obtain ⟨b1,b2,b3⟩:=hb;simp only [size_mk,sizeL_cons,sizeL_nil] at b1 b2 b3
 have zx:=size_pos x;have zy:=size_pos y;rw [vq hs k];have c1:=yJ s0 env ⟨18,0,0,eS⟩ (by omega)
 have q1:(s0.emit ⟨18,0,0,eS⟩).ins.length=s0.ins.length+1/\(s0.emit ⟨18,0,0,eS⟩).pats.length=s0.pats.length:=⟨xk _ _,rfl⟩;obtain ⟨s1,h1⟩:∃ q,q=s0.emit ⟨18,0,0,eS⟩:=⟨_,rfl⟩;rw [<- h1] at c1 q1
 have c2:=ix env s1 ⟨by omega,by omega,by omega⟩
 have q2:=And.intro ((xm true x ox).lo env s1) (And.intro ((xm true x ox).hi env s1) ((xm true x ox).phi env s1));obtain ⟨s2,h2⟩:∃ q,q=cmp true x env s1:=⟨_,rfl⟩;rw [<- h2] at c2 q2
 have c3:=yJ s2 env ⟨19,0,0,eS⟩ (by omega)
 have q3:(s2.emit ⟨19,0,0,eS⟩).ins.length=s2.ins.length+1/\(s2.emit ⟨19,0,0,eS⟩).pats.length=s2.pats.length:=⟨xk _ _,rfl⟩;obtain ⟨s3,h3⟩:∃ q,q=s2.emit ⟨19,0,0,eS⟩:=⟨_,rfl⟩;rw [<- h3] at c3 q3
 have c4:=yJ s3 env ⟨12,0,0,eS⟩ (by omega)
 have q4:(s3.emit ⟨12,0,0,eS⟩).ins.length=s3.ins.length+1/\(s3.emit ⟨12,0,0,eS⟩).pats.length=s3.pats.length:=⟨xk _ _,rfl⟩;obtain ⟨s4,h4⟩:∃ q,q=s3.emit ⟨12,0,0,eS⟩:=⟨_,rfl⟩;rw [<- h4] at c4 q4
 have c5:=X0 s4 env s0.ins.length (by omega) (by omega)
 have q5:(s4.here s0.ins.length).ins.length=s4.ins.length/\(s4.here s0.ins.length).pats.length=s4.pats.length:=⟨yc _ _,rfl⟩;obtain ⟨s5,h5⟩:∃ q,q=s4.here s0.ins.length:=⟨_,rfl⟩;rw [<- h5] at c5 q5
 have c6:=Xs iy env [a.s] s5 ⟨by omega,by omega,by rw [List.length_append];simp only [List.length_cons,List.length_nil];omega⟩
 have q6:=And.intro ((xm true y oy).lo (env++[a.s]) s5) (And.intro ((xm true y oy).hi (env++[a.s]) s5) ((xm true y oy).phi (env++[a.s]) s5));obtain ⟨s6,h6⟩:∃ q,q=cmp true y (env++[a.s]) s5:=⟨_,rfl⟩;rw [<- h6] at c6 q6
 have c7:=yJ s6 env ⟨15,1,0,eS⟩ (by omega)
 have q7:(s6.emit ⟨15,1,0,eS⟩).ins.length=s6.ins.length+1/\(s6.emit ⟨15,1,0,eS⟩).pats.length=s6.pats.length:=⟨xk _ _,rfl⟩;obtain ⟨s7,h7⟩:∃ q,q=s6.emit ⟨15,1,0,eS⟩:=⟨_,rfl⟩;rw [<- h7] at c7 q7
 have c8:=X0 s7 env s3.ins.length (by omega) (by omega)
 have q8:(s7.here s3.ins.length).ins.length=s7.ins.length/\(s7.here s3.ins.length).pats.length=s7.pats.length:=⟨yc _ _,rfl⟩;obtain ⟨s8,h8⟩:∃ q,q=s7.here s3.ins.length:=⟨_,rfl⟩;rw [<- h8] at c8 q8
 have hf:tryC (cmp true x) (cmp true y) a.s env s0=s8:=by rw [h8,h7,h6,h5,h4,h3,h2,h1];rfl
 rw [hf];clear hf h1 h2 h3 h4 h5 h6 h7 h8;obtain ⟨gx,rx⟩:=x;obtain ⟨gy,ry⟩:=y;simp only [xW,List.map_cons,List.map_nil,uM] at hce ⊢
 simp only [xW,List.map_cons,List.map_nil,xH] at c2
 simp only [xW,List.map_cons,List.map_nil,xH] at c6
 rw [k] at hce
 simp only [xB s0 env,hl] at c1
 refine FI PM Tryz.func55 Tryz.ntmps55 [(14,12,[],[],(lin [] [0,1,2,3,4,5,6,7,8,9,10,11])),(16,26,[],[],(lin [] [0,1,2,3,4,5,6,7,8,9,10,11,12,13,14,15,16,17,18,19,20,21,22,23,24,25])),(17,12,[],[],(lin [] [0,1,2,3,4,5,6,7,8,9,10,11])),(26,12,[],[],(lin [] [0,1,2,3,4,5,6,7,8,9,10,11])),(42,12,[],[],(lin [] [0,1,2,3,4,5,6,7,8,9,10,11]))] rfl rfl ?_
 (have hWf:=w5 @xB @hl @hee @k @xH;repeat' (first|refine zS ?_|refine zI ?_ ?_|refine zK hce ?_|refine zH c1 ?_|refine zH c2 ?_|refine zH c3 ?_|refine zH c4 ?_|refine zH c5 ?_|refine zH c6 ?_|refine zH c7 ?_|refine zH c8 ?_|exact zF0|refine zD fun hb=>?_|exact zC|refine zT ?_|fail))
 all_goals first|rfl|skip
end
end Go.Proofs.YtgcdbmcoendcdaaGreat
