/- Parts of the proof. -/
import Derived.Test.YtgcdbmcoendcdaaGreatC8
set_option maxRecDepth 100000
set_option maxHeartbeats 8000000
set_option linter.unusedVariables false
set_option linter.unusedSimpArgs false
namespace Go.Proofs.YtgcdbmcoendcdaaGreat
section
attribute [local go_sem] Option.getD_some Option.isSome_none Option.isSome_some
open Go.RowKit
def Xo(s:ByteArray):Int:=if yM s=true then 3 else if conM s.data.toList=true then 4 else if inL s z6=true then 6 else 0
theorem Yp(s:ByteArray)(hs:s.size<=maxLen):FT 193 [.s (.string s)] (fun r _=>r=.ag [.s (.int .i64 (Xo s)),.s (.int .i64 0),.s (.string s),.s (.int .i64 0)]):=by
 unfold Xo;cases hn:yM s with
 | true=>
  refine FI PM Tryz.func193 Tryz.ntmps193 [] rfl rfl ?_
  (have hWf:=w1 @hn;repeat' (first|refine zS ?_|refine zI ?_ ?_|((with_reducible apply xc);refine zG (xz _ hs) ?_)|((with_reducible apply xj);refine xg (xz _ hs) ?_)|exact zF0|refine zD fun hb=>?_|exact zC|refine zT ?_|fail))
 | false=>
  cases hc:conM s.data.toList with
  | true=>
   refine FI PM Tryz.func193 Tryz.ntmps193 [] rfl rfl ?_
   (have hWf:=w2 @hn @hc;repeat' (first|refine zS ?_|refine zI ?_ ?_|((with_reducible apply xc);refine zG (xz _ hs) ?_)|((with_reducible apply xj);refine xg (xz _ hs) ?_)|((with_reducible apply xc);refine zG (yX _ hs) ?_)|((with_reducible apply xj);refine xg (yX _ hs) ?_)|exact zF0|refine zD fun hb=>?_|exact zC|refine zT ?_|fail))
  | false=>
   cases hk:inL s z6 with
   | true=>
    refine FI PM Tryz.func193 Tryz.ntmps193 [] rfl rfl ?_
    (have hWf:=w3 @hn @hc @hk;repeat' (first|refine zS ?_|refine zI ?_ ?_|((with_reducible apply xc);refine zG (xz _ hs) ?_)|((with_reducible apply xj);refine xg (xz _ hs) ?_)|((with_reducible apply xc);refine zG (yX _ hs) ?_)|((with_reducible apply xj);refine xg (yX _ hs) ?_)|((with_reducible apply xc);refine zG (Yo _) ?_)|((with_reducible apply xj);refine xg (Yo _) ?_)|exact zF0|refine zD fun hb=>?_|exact zC|refine zT ?_|fail))
   | false=>
    refine FI PM Tryz.func193 Tryz.ntmps193 [] rfl rfl ?_
    (have hWf:=w3 @hn @hc @hk;repeat' (first|refine zS ?_|refine zI ?_ ?_|((with_reducible apply xc);refine zG (xz _ hs) ?_)|((with_reducible apply xj);refine xg (xz _ hs) ?_)|((with_reducible apply xc);refine zG (yX _ hs) ?_)|((with_reducible apply xj);refine xg (yX _ hs) ?_)|((with_reducible apply xc);refine zG (Yo _) ?_)|((with_reducible apply xj);refine xg (Yo _) ?_)|exact zF0|refine zD fun hb=>?_|exact zC|refine zT ?_|fail))
theorem lexF_tok'{s:ByteArray}{f i n:Nat}{t:MTok}{acc:List MTok}(h:i<s.size)(hb:uo (bAt s i)=false)(hl:hasM s lpB i=false)(hT:tokM s i=(t,n,0)):lexF s (f+1) i acc=lexF s f (i+n) (acc++[t]):=by
 rw [Uk h hb hl (by rw [hT]),hT]
theorem lexF_bad'{s:ByteArray}{f i n:Nat}{c:Int}{t:MTok}{acc:List MTok}(h:i<s.size)(hb:uo (bAt s i)=false)(hl:hasM s lpB i=false)(hT:tokM s i=(t,n,c))(hc:c≠0):lexF s (f+1) i acc=([],c,(i:Int)):=by
 rw [Uh h hb hl (by rw [hT];exact hc),hT]
theorem tokM_word{s:ByteArray}{i:Nat}(hd:digI (bAt s i)=false)(hl:(lowI (bAt s i)||uppI (bAt s i))=true):tokM s i=(⟨Xo (s.extract i (xM s i)),0,s.extract i (xM s i),i⟩,if Xo (s.extract i (xM s i))=0 then 0 else xM s i - i,if Xo (s.extract i (xM s i))=0 then 5 else 0):=by
 unfold tokM Xo;rw [if_neg (by rw [hd];simp),if_pos hl]
 split
 .rfl
 .split
  .rfl
  .split<;>rfl
theorem cls_dig{n:Int}(h:digI n=true):clsI n=3/\n≠95:=by
 unfold digI at h;unfold clsI lowI uppI digI
 simp at h
 refine ⟨?_,by omega⟩
 rw [if_neg (by simp;omega),if_neg (by simp;omega),if_pos (by simp;omega)]
theorem cls_let{n:Int}(hd:digI n=false)(h:(lowI n||uppI n)=true):(clsI n=1\/clsI n=2)/\n≠95:=by
 unfold clsI;cases hl:lowI n with
 | true=>exact ⟨.inl rfl,by unfold lowI at hl;simp at hl;omega⟩
 | false=>
  rw [hl] at h
  have h:uppI n=true:=h;rw [h];exact ⟨.inr rfl,by unfold uppI at h;simp at h;omega⟩
theorem cls_els{n:Int}(hd:digI n=false)(h:(lowI n||uppI n)=false):(decide (clsI n>0)&&(n != 95))=false:=by
 simp only [Bool.or_eq_false_iff] at h
 unfold clsI;rw [h.1,h.2,hd]
 by_cases q:n=95
 .subst q;rfl
 .have:(n==95)=false:=by simpa using q
  rw [this];rfl
theorem XQ(n:Int):decide (clsI n>0)=worI n:=by
 have h:=W8 n;have h0:0<=clsI n:=by unfold clsI;split;decide;split;decide;split<;>decide
 cases hw:worI n with
 | true=>
  rw [hw] at h
  have h:clsI n≠0:=by simpa using h
  simp;omega
 | false=>
  rw [hw] at h
  have h:clsI n=0:=by simpa using h
  simp;omega
theorem cls_low(n:Int)(b:Bool)(h:lowI n=b):(clsI n==1)=b:=by rw [cls_one,h]
theorem V4(s:ByteArray)(hs0:s.size<=9223372036854775807):FT 127 [.s (.string s)] (fun r _=>r=lexD (lexM s)):=by
 refine FCon.bareL ?_
 by_cases h4:s.size<=4000
 .have hM:lexM s=lexF s s.size 0 []:=by unfold lexM;rw [if_pos h4]
  rw [hM];have hs:s.size<=1048576:=by omega
  refine FI PM Tryz.func127 Tryz.ntmps127 [] rfl rfl ?_
  (have hWf:=f0;repeat' (first|refine zS ?_|refine zI ?_ ?_|exact zF0|refine zD fun hb=>?_|exact zC|refine zT ?_|fail))
  refine xn (fun n σ=>∃ (f k:Nat) (acc:List MTok),n=f/\s.size<=f+k/\k<=s.size/\acc.length<=k/\lexF s f k acc=lexF s s.size 0 []/\σ.t 0=.s (.string s)/\σ.t 5=.bs 20 4 acc.length/\σ.b 20=some (.arr 234 4 (acc.map MTok.own))/\σ.t 6=.s (.int .i64 k)) s.size ⟨s.size,0,[],rfl,by omega,by omega,by simp,rfl,?_⟩ ?_
  .simp only [go_sem,simprocAttr,Int.natCast_zero]
  .rintro n σ ⟨f,k,acc,rfl,hf,hk,hac,hw,h0,h5,hb20,h6⟩ K' hK
   by_cases hlt:k<s.size
   .obtain ⟨f,rfl⟩:∃ g,n=g+1:=⟨n - 1,by omega⟩
    have hb1:=ug hlt;cases hbk:uo (bAt s k) with
    | true=>
     rw [Zd hlt hbk] at hw
     have hbk':(bAt s k==9||bAt s k==10||bAt s k==13||bAt s k==32)=true:=hbk
     (have hWf:=w7 @h0 @h5 @hb20 @h6 @hb1 @yk @hbk';repeat' (first|refine zS ?_|refine zI ?_ ?_|exact zF0|refine zD fun hb=>?_|exact zC|refine zT ?_|fail))
     refine hK f _ (by omega) ⟨f,k+1,acc,rfl,by omega,by omega,by omega,hw,?_⟩
     simp only [go_sem,simprocAttr,h0,h5,hb20,h6,cast1]
    | false=>
     have hbk':(bAt s k==9||bAt s k==10||bAt s k==13||bAt s k==32)=false:=hbk
     have hst:=yq s k lpB hs (by omega) (by rw [uf];omega)
     cases hlp:hasM s lpB k with
     | true=>
      have hrm:=xaY s k hs hlt hlp;cases hr:remM s k with
      | none=>
       rw [Ze hlt hbk hlp hr] at hw
       simp only [hr] at hrm
       (have hWf:=w8 @h0 @h5 @hb20 @h6 @hb1 @yk @hbk' @hlp;repeat' (first|refine zS ?_|refine zI ?_ ?_|refine zK hst ?_|refine zK hrm ?_|exact zF0|refine zD fun hb=>?_|exact zC|refine zT ?_|fail))
       exact wn hw.symm
      | some j=>
       have hjb:=remM_bd hr;rw [Uj hlt hbk hlp hr] at hw
       simp only [hr] at hrm
       (have hWf:=w8 @h0 @h5 @hb20 @h6 @hb1 @yk @hbk' @hlp;repeat' (first|refine zS ?_|refine zI ?_ ?_|refine zK hst ?_|refine zK hrm ?_|exact zF0|refine zD fun hb=>?_|exact zC|refine zT ?_|fail))
       refine hK f _ (by omega) ⟨f,j,acc,rfl,by omega,by omega,by omega,hw,?_⟩
       simp only [go_sem,simprocAttr,h0,h5,hb20,h6]
     | false=>
      have hwb:=xaP (s:=s) (k:=k) (by omega)
      have hsz:=Q8 (i:=k) hwb.2;have hwm:(s.extract k (xM s k)).size<=maxLen:=by rw [hsz];unfold maxLen;omega
      cases hd:digI (bAt s k) with
      | true=>
       obtain ⟨c3,c95⟩:=cls_dig hd;have hp:=YA hlt (dig_wor hd);have e95:(bAt s k != 95)=true:=by simpa using c95
       (have hWf:=w10 @h0 @h5 @hb20 @h6 @hb1 @yk @hbk' @hlp @c3 @e95;repeat' (first|refine zS ?_|refine zI ?_ ?_|refine zK hst ?_|((with_reducible apply xc);refine zG (xw _) ?_)|((with_reducible apply xj);refine xg (xw _) ?_)|exact zF0|refine zD fun hb=>?_|exact zC|refine zT ?_|fail))
       refine xn (fun n σ=>∃ g j:Nat,n=g/\s.size<=g+j/\k<=j/\j<=s.size/\uY s g j=xM s k/\σ.t 0=.s (.string s)/\σ.t 5=.bs 20 4 acc.length/\σ.b 20=some (.arr 234 4 (acc.map MTok.own))/\σ.t 6=.s (.int .i64 k)/\σ.t 7=.s (.int .u8 (bAt s k))/\σ.t 9=.bx 9 0/\σ.b 9=some (.box [.s (.int .i64 0),.s (.int .i64 0),.s (.string ⟨#[]⟩),.s (.int .i64 0)])/\σ.t 10=.s (.int .i64 j)) s.size ⟨s.size,k,rfl,by omega,by omega,by omega,rfl,?_⟩ ?_
       .simp only [go_sem,simprocAttr,h0,h5,hb20,h6,yk]
       .rintro n σ ⟨g,j,rfl,hg,hkj,hj,hwj,g0,g5,gb20,g6,g7,g9,gb9,g10⟩ K'' hK''
        have hin:j<s.size/\worI (bAt s j)=true\/¬ (j<s.size/\worI (bAt s j)=true):=Decidable.em _;rcases hin with ⟨hjl,hjw⟩|hout
        .obtain ⟨g,rfl⟩:∃ z,n=z+1:=⟨n - 1,by omega⟩
         have gb1:=ug hjl;rw [Zq hjl hjw] at hwj
         (have hWf:=w10 @g0 @g5 @gb20 @g6 @g7 @g9 @gb9 @g10 @gb1 (ai @yk<|ai @XQ<|@hjw);repeat' (first|refine zS ?_|refine zI ?_ ?_|((with_reducible apply xc);refine zG (xw _) ?_)|((with_reducible apply xj);refine xg (xw _) ?_)|exact zF0|refine zD fun hb=>?_|exact zC|refine zT ?_|fail))
         refine hK'' g _ (by omega) ⟨g,j+1,rfl,by omega,by omega,by omega,hwj,?_⟩
         simp only [go_sem,simprocAttr,g0,g5,gb20,g6,g7,g9,gb9,g10,cast1]
        .rw [Qv hout] at hwj
         subst hwj;have hex:decide (((xM s k:Nat):Int)<(s.size:Int))=false/\True/\True\/(decide (((xM s k:Nat):Int)<(s.size:Int))=true/\worI (bAt s (xM s k))=false/\xM s k<s.size):=by
          by_cases q:xM s k<s.size
          .exact .inr ⟨ug q,by cases h:worI (bAt s (xM s k)) with|false=>rfl|true=>exact absurd ⟨q,h⟩ hout,q⟩
          .exact .inl ⟨Xe q,trivial,trivial⟩
         rcases hex with ⟨x1,x2,x3⟩|⟨x1,x2,x3⟩
         all_goals
         have hT:tokM s k=match txtO (s.extract k (xM s k)).data.toList with
          | none=>(zTok k,0,3)
          | some n=>(⟨1,n,noB,k⟩,xM s k - k,0):=by unfold tokM;rw [if_pos hd];rfl
         cases ht:txtO (s.extract k (xM s k)).data.toList with
         | none=>
          rw [ht] at hT
          rw [lexF_bad' hlt hbk hlp hT (by decide)] at hw
          (have hWf:=w10 @g0 @g5 @gb20 @g6 @g7 @g9 @gb9 @g10 @x1 (ai @x2<|ai @yk<|ai @XQ<|ai @zF<|ai @c3<|@ht);repeat' (first|refine zS ?_|refine zI ?_ ?_|((with_reducible apply xc);refine zG (xw _) ?_)|((with_reducible apply xj);refine xg (xw _) ?_)|((with_reducible apply xc);refine zG (uR _ hwm) ?_)|((with_reducible apply xj);refine xg (uR _ hwm) ?_)|exact zF0|refine zD fun hb=>?_|exact zC|refine zT ?_|fail))
          exact wn hw.symm
         | some n=>
          rw [ht] at hT
          rw [lexF_tok' hlt hbk hlp hT] at hw
          (have hWf:=w10 @g0 @g5 @gb20 @g6 @g7 @g9 @gb9 @g10 @x1 (ai @x2<|ai @yk<|ai @XQ<|ai @zF<|ai @c3<|@ht);repeat' (first|refine zS ?_|refine zI ?_ ?_|((with_reducible apply xc);refine zG (xw _) ?_)|((with_reducible apply xj);refine xg (xw _) ?_)|((with_reducible apply xc);refine zG (uR _ hwm) ?_)|((with_reducible apply xj);refine xg (uR _ hwm) ?_)|exact zF0|refine zD fun hb=>?_|exact zC|refine zT ?_|fail))
          refine hK f _ (by omega) ⟨f,xM s k,acc++[⟨1,n,noB,k⟩],rfl,by omega,by omega,by simp;omega,?_,?_⟩
          .rw [<- hw];congr 1;omega
          .simp only [go_sem,simprocAttr,g0,g5,gb20,g6,List.map_append,List.length_append,List.length_singleton,MTok.own_eq,noB_eq]
           all_goals trace_state
      | false=>
       cases hl:(lowI (bAt s k)||uppI (bAt s k)) with
       | true=>
        obtain ⟨c12,c95⟩:=cls_let hd hl;have hp:=YA hlt (let_wor hl);have e95:(bAt s k != 95)=true:=by simpa using c95
        have ec:decide (clsI (bAt s k)>0)=true:=by simp;omega
        have ec3:(clsI (bAt s k)==3)=false:=by rcases c12 with q|q<;>rw [q]<;>rfl
        (have hWf:=w10 @h0 @h5 @hb20 @h6 @hb1 @yk @hbk' @hlp @ec @e95;repeat' (first|refine zS ?_|refine zI ?_ ?_|refine zK hst ?_|((with_reducible apply xc);refine zG (xw _) ?_)|((with_reducible apply xj);refine xg (xw _) ?_)|exact zF0|refine zD fun hb=>?_|exact zC|refine zT ?_|fail))
        refine xn (fun n σ=>∃ g j:Nat,n=g/\s.size<=g+j/\k<=j/\j<=s.size/\uY s g j=xM s k/\σ.t 0=.s (.string s)/\σ.t 5=.bs 20 4 acc.length/\σ.b 20=some (.arr 234 4 (acc.map MTok.own))/\σ.t 6=.s (.int .i64 k)/\σ.t 7=.s (.int .u8 (bAt s k))/\σ.t 9=.bx 9 0/\σ.b 9=some (.box [.s (.int .i64 0),.s (.int .i64 0),.s (.string ⟨#[]⟩),.s (.int .i64 0)])/\σ.t 10=.s (.int .i64 j)) s.size ⟨s.size,k,rfl,by omega,by omega,by omega,rfl,?_⟩ ?_
        .simp only [go_sem,simprocAttr,h0,h5,hb20,h6,yk]
        .rintro n σ ⟨g,j,rfl,hg,hkj,hj,hwj,g0,g5,gb20,g6,g7,g9,gb9,g10⟩ K'' hK''
         have hin:j<s.size/\worI (bAt s j)=true\/¬ (j<s.size/\worI (bAt s j)=true):=Decidable.em _;rcases hin with ⟨hjl,hjw⟩|hout
         .obtain ⟨g,rfl⟩:∃ z,n=z+1:=⟨n - 1,by omega⟩
          have gb1:=ug hjl;rw [Zq hjl hjw] at hwj
          (have hWf:=w10 @g0 @g5 @gb20 @g6 @g7 @g9 @gb9 @g10 @gb1 (ai @yk<|ai @XQ<|@hjw);repeat' (first|refine zS ?_|refine zI ?_ ?_|((with_reducible apply xc);refine zG (xw _) ?_)|((with_reducible apply xj);refine xg (xw _) ?_)|exact zF0|refine zD fun hb=>?_|exact zC|refine zT ?_|fail))
          refine hK'' g _ (by omega) ⟨g,j+1,rfl,by omega,by omega,by omega,hwj,?_⟩
          simp only [go_sem,simprocAttr,g0,g5,gb20,g6,g7,g9,gb9,g10,cast1]
         .rw [Qv hout] at hwj
          subst hwj;have hex:decide (((xM s k:Nat):Int)<(s.size:Int))=false/\True/\True\/(decide (((xM s k:Nat):Int)<(s.size:Int))=true/\worI (bAt s (xM s k))=false/\xM s k<s.size):=by
           by_cases q:xM s k<s.size
           .exact .inr ⟨ug q,by cases h:worI (bAt s (xM s k)) with|false=>rfl|true=>exact absurd ⟨q,h⟩ hout,q⟩
           .exact .inl ⟨Xe q,trivial,trivial⟩
          rcases hex with ⟨x1,x2,x3⟩|⟨x1,x2,x3⟩
          all_goals
          have hT:=tokM_word hd hl
          by_cases hz:Xo (s.extract k (xM s k))=0
          .have ez:(Xo (s.extract k (xM s k))==0)=true:=by simpa using hz
           rw [if_pos hz,if_pos hz] at hT
           rw [lexF_bad' hlt hbk hlp hT (by decide)] at hw
           (have hWf:=w10 @g0 @g5 @gb20 @g6 @g7 @g9 @gb9 @g10 @x1 (ai @x2<|ai @yk<|ai @XQ<|ai @zF<|ai @ec3<|@ez);repeat' (first|refine zS ?_|refine zI ?_ ?_|((with_reducible apply xc);refine zG (xw _) ?_)|((with_reducible apply xj);refine xg (xw _) ?_)|((with_reducible apply xc);refine zG (Yp _ hwm) ?_)|((with_reducible apply xj);refine xg (Yp _ hwm) ?_)|exact zF0|refine zD fun hb=>?_|exact zC|refine zT ?_|fail))
           exact wn hw.symm
          .have ez:(Xo (s.extract k (xM s k))==0)=false:=by simpa using hz
           rw [if_neg hz,if_neg hz] at hT
           rw [lexF_tok' hlt hbk hlp hT] at hw
           (have hWf:=w10 @g0 @g5 @gb20 @g6 @g7 @g9 @gb9 @g10 @x1 (ai @x2<|ai @yk<|ai @XQ<|ai @zF<|ai @ec3<|@ez);repeat' (first|refine zS ?_|refine zI ?_ ?_|((with_reducible apply xc);refine zG (xw _) ?_)|((with_reducible apply xj);refine xg (xw _) ?_)|((with_reducible apply xc);refine zG (Yp _ hwm) ?_)|((with_reducible apply xj);refine xg (Yp _ hwm) ?_)|exact zF0|refine zD fun hb=>?_|exact zC|refine zT ?_|fail))
           refine hK f _ (by omega) ⟨f,xM s k,acc++[⟨Xo (s.extract k (xM s k)),0,s.extract k (xM s k),k⟩],rfl,by omega,by omega,by simp;omega,?_,?_⟩
           .rw [<- hw];congr 1;omega
           .simp only [go_sem,simprocAttr,g0,g5,gb20,g6,List.map_append,List.length_append,List.length_singleton,MTok.own_eq]
            all_goals trace_state
       | false=>
        have ec:=cls_els hd hl
        by_cases hq:bAt s k=34
        .have e34:(bAt s k==34)=true:=by simpa using hq
         have hE:=c_l02End s k hs hlt;have hT:tokM s k=match quoE s (k+1) with
          | none=>(zTok k,0,4)
          | some j=>match unqO (s.extract k (j+1)).data.toList with
           | none=>(zTok k,0,4)
           | some t=>(⟨2,0,bs t,k⟩,j+1 - k,0):=by
          unfold tokM;rw [hq,if_neg (by decide),if_neg (by decide),if_neg (by simp),if_pos rfl]
          rfl
         cases hqq:quoE s (k+1) with
         | none=>
          simp only [hqq] at hE hT
          rw [lexF_bad' hlt hbk hlp hT (by decide)] at hw
          (have hWf:=w10 @h0 @h5 @hb20 @h6 @hb1 @yk @hbk' @hlp @ec @e34;repeat' (first|refine zS ?_|refine zI ?_ ?_|refine zK hst ?_|((with_reducible apply xc);refine zG (xw _) ?_)|((with_reducible apply xj);refine xg (xw _) ?_)|refine zK hE ?_|exact zF0|refine zD fun hb=>?_|exact zC|refine zT ?_|fail))
          exact wn hw.symm
         | some j=>
          have hkb:=WA s _ _ j hqq;have hsz:=Q8 (s:=s) (i:=k) (j:=j+1) (by omega)
          have hum:(s.extract k (j+1)).size<=9000000000:=by rw [hsz];omega
          simp only [hqq] at hE hT
          cases hu:unqO (s.extract k (j+1)).data.toList with
          | none=>
           simp only [hu] at hT
           rw [lexF_bad' hlt hbk hlp hT (by decide)] at hw
           (have hWf:=w10 @h0 @h5 @hb20 @h6 @hb1 @yk @hbk' @hlp @ec (ai @e34<|ai @zF<|@hu);repeat' (first|refine zS ?_|refine zI ?_ ?_|refine zK hst ?_|((with_reducible apply xc);refine zG (xw _) ?_)|((with_reducible apply xj);refine xg (xw _) ?_)|refine zK hE ?_|((with_reducible apply xc);refine zG (uS _ hum) ?_)|((with_reducible apply xj);refine xg (uS _ hum) ?_)|exact zF0|refine zD fun hb=>?_|exact zC|refine zT ?_|fail))
           exact wn hw.symm
          | some t=>
           simp only [hu] at hT
           rw [lexF_tok' hlt hbk hlp hT] at hw
           (have hWf:=w10 @h0 @h5 @hb20 @h6 @hb1 @yk @hbk' @hlp @ec (ai @e34<|ai @zF<|@hu);repeat' (first|refine zS ?_|refine zI ?_ ?_|refine zK hst ?_|((with_reducible apply xc);refine zG (xw _) ?_)|((with_reducible apply xj);refine xg (xw _) ?_)|refine zK hE ?_|((with_reducible apply xc);refine zG (uS _ hum) ?_)|((with_reducible apply xj);refine xg (uS _ hum) ?_)|exact zF0|refine zD fun hb=>?_|exact zC|refine zT ?_|fail))
           refine hK f _ (by omega) ⟨f,j+1,acc++[⟨2,0,bs t,k⟩],rfl,by omega,by omega,by simp;omega,?_,?_⟩
           .rw [<- hw];congr 1;omega
           .simp only [go_sem,simprocAttr,h0,h5,hb20,h6,List.map_append,List.length_append,List.length_singleton,MTok.own_eq,cast1]
            all_goals trace_state
        .have e34:(bAt s k==34)=false:=by simpa using hq
         by_cases hv:bAt s k=39/\k+1<s.size/\lowI (bAt s (k+1))=true
         .obtain ⟨h39,hk1,hlo⟩:=hv
          have e39:(bAt s k==39)=true:=by simpa using h39
          have e4:=ug hk1;rw [cast1] at e4
          have e1:=cls_low _ _ hlo;have hlb:97<=bAt s (k+1)/\bAt s (k+1)<=122:=by unfold lowI at hlo;simpa using hlo
          have hT:tokM s k=(⟨5,bAt s (k+1) - 97,noB,k⟩,2,0):=by
           unfold tokM;rw [h39,if_neg (by decide),if_neg (by decide),if_pos ⟨rfl,hk1,hlo⟩]
          rw [lexF_tok' hlt hbk hlp hT] at hw
          (have hWf:=w10 @h0 @h5 @hb20 @h6 @hb1 @yk @hbk' @hlp @ec (ai @e34<|ai @e39<|ai @e4<|ai @e1<|@zF);repeat' (first|refine zS ?_|refine zI ?_ ?_|refine zK hst ?_|((with_reducible apply xc);refine zG (xw _) ?_)|((with_reducible apply xj);refine xg (xw _) ?_)|exact zF0|refine zD fun hb=>?_|exact zC|refine zT ?_|fail))
          refine hK f _ (by omega) ⟨f,k+2,acc++[⟨5,bAt s (k+1) - 97,noB,k⟩],rfl,by omega,by omega,by simp;omega,hw,?_⟩
          simp only [go_sem,simprocAttr,h0,h5,hb20,h6,List.map_append,List.length_append,List.length_singleton,MTok.own_eq,cast2,noB_eq]
          all_goals trace_state
         .have hT:tokM s k=if y8 s k=noB then (zTok k,0,2) else (⟨6,0,y8 s k,k⟩,(y8 s k).size,0):=by
           simp only [Bool.or_eq_false_iff] at hl
           unfold tokM;rw [if_neg (by rw [hd];simp),if_neg (by rw [hl.1,hl.2];simp),if_neg hv,if_neg hq]
          have key:∀ b:Bool,((y8 s k).toList==[])=b->(b=true ↔ y8 s k=noB):=by
           rintro b rfl
           rw [<- lit0,VH];simp;rfl
          have hv39:(bAt s k==39)=false\/((bAt s k==39)=true/\decide (((k:Nat):Int)+1<(s.size:Int))=false)\/((bAt s k==39)=true/\decide (((k:Nat):Int)+1<(s.size:Int))=true/\k+1<s.size/\(clsI (bAt s (k+1))==1)=false):=by
           by_cases h39:bAt s k=39
           .by_cases hk1:k+1<s.size
            .exact .inr (.inr ⟨by simpa using h39,by have:=ug hk1;rwa [cast1] at this,hk1,cls_low _ _ (by cases h:lowI (bAt s (k+1)) with|false=>rfl|true=>exact absurd ⟨h39,hk1,h⟩ hv)⟩)
            .exact .inr (.inl ⟨by simpa using h39,by have:=Xe hk1;rwa [cast1] at this⟩)
           .exact .inl (by simpa using h39)
          have hsn:=c_l02Sign s k hs hlt;cases hz:((y8 s k).toList==[]) with
          | true=>
           rw [if_pos ((key _ hz).1 rfl)] at hT
           rw [lexF_bad' hlt hbk hlp hT (by decide)] at hw
           rcases hv39 with e39|⟨e39,e4⟩|⟨e39,e4,hk1,e1⟩
           ·(have hWf:=w10 @h0 @h5 @hb20 @h6 @hb1 @yk @hbk' @hlp @ec (ai @e34<|ai @e39<|ai @hz<|@lit0);repeat' (first|refine zS ?_|refine zI ?_ ?_|refine zK hst ?_|((with_reducible apply xc);refine zG (xw _) ?_)|((with_reducible apply xj);refine xg (xw _) ?_)|refine zK hsn ?_|exact zF0|refine zD fun hb=>?_|exact zC|refine zT ?_|fail))
            exact wn hw.symm
           ·(have hWf:=w10 @h0 @h5 @hb20 @h6 @hb1 @yk @hbk' @hlp @ec (ai @e34<|ai @e39<|ai @e4<|ai @hz<|@lit0);repeat' (first|refine zS ?_|refine zI ?_ ?_|refine zK hst ?_|((with_reducible apply xc);refine zG (xw _) ?_)|((with_reducible apply xj);refine xg (xw _) ?_)|refine zK hsn ?_|exact zF0|refine zD fun hb=>?_|exact zC|refine zT ?_|fail))
            exact wn hw.symm
           ·(have hWf:=w10 @h0 @h5 @hb20 @h6 @hb1 @yk @hbk' @hlp @ec (ai @e34<|ai @e39<|ai @e4<|ai @e1<|ai @zF<|ai @hz<|@lit0);repeat' (first|refine zS ?_|refine zI ?_ ?_|refine zK hst ?_|((with_reducible apply xc);refine zG (xw _) ?_)|((with_reducible apply xj);refine xg (xw _) ?_)|refine zK hsn ?_|exact zF0|refine zD fun hb=>?_|exact zC|refine zT ?_|fail))
            exact wn hw.symm
          | false=>
           have hne:y8 s k≠noB:=fun q=>by have:=(key _ hz).2 q;cases this
           rw [if_neg hne] at hT
           rw [lexF_tok' hlt hbk hlp hT] at hw
           obtain ⟨b1,b2⟩:=(YI s k).resolve_left hne;rcases hv39 with e39|⟨e39,e4⟩|⟨e39,e4,hk1,e1⟩
           ·(have hWf:=w10 @h0 @h5 @hb20 @h6 @hb1 @yk @hbk' @hlp @ec (ai @e34<|ai @e39<|ai @hz<|@lit0);repeat' (first|refine zS ?_|refine zI ?_ ?_|refine zK hst ?_|((with_reducible apply xc);refine zG (xw _) ?_)|((with_reducible apply xj);refine xg (xw _) ?_)|refine zK hsn ?_|exact zF0|refine zD fun hb=>?_|exact zC|refine zT ?_|fail))
            refine hK f _ (by omega) ⟨f,k+(y8 s k).size,acc++[⟨6,0,y8 s k,k⟩],rfl,by omega,by omega,by simp;omega,hw,?_⟩
            simp only [go_sem,simprocAttr,h0,h5,hb20,h6,List.map_append,List.length_append,List.length_singleton,MTok.own_eq,Int.natCast_add]
           ·(have hWf:=w10 @h0 @h5 @hb20 @h6 @hb1 @yk @hbk' @hlp @ec (ai @e34<|ai @e39<|ai @e4<|ai @hz<|@lit0);repeat' (first|refine zS ?_|refine zI ?_ ?_|refine zK hst ?_|((with_reducible apply xc);refine zG (xw _) ?_)|((with_reducible apply xj);refine xg (xw _) ?_)|refine zK hsn ?_|exact zF0|refine zD fun hb=>?_|exact zC|refine zT ?_|fail))
            refine hK f _ (by omega) ⟨f,k+(y8 s k).size,acc++[⟨6,0,y8 s k,k⟩],rfl,by omega,by omega,by simp;omega,hw,?_⟩
            simp only [go_sem,simprocAttr,h0,h5,hb20,h6,List.map_append,List.length_append,List.length_singleton,MTok.own_eq,Int.natCast_add]
           ·(have hWf:=w10 @h0 @h5 @hb20 @h6 @hb1 @yk @hbk' @hlp @ec (ai @e34<|ai @e39<|ai @e4<|ai @e1<|ai @zF<|ai @hz<|@lit0);repeat' (first|refine zS ?_|refine zI ?_ ?_|refine zK hst ?_|((with_reducible apply xc);refine zG (xw _) ?_)|((with_reducible apply xj);refine xg (xw _) ?_)|refine zK hsn ?_|exact zF0|refine zD fun hb=>?_|exact zC|refine zT ?_|fail))
            refine hK f _ (by omega) ⟨f,k+(y8 s k).size,acc++[⟨6,0,y8 s k,k⟩],rfl,by omega,by omega,by simp;omega,hw,?_⟩
            simp only [go_sem,simprocAttr,h0,h5,hb20,h6,List.map_append,List.length_append,List.length_singleton,MTok.own_eq,Int.natCast_add]
   .have hb1:=Xe hlt
    rw [Ui (by omega)] at hw
    (have hWf:=w5 @h0 @h5 @hb20 @h6 @hb1;repeat' (first|refine zS ?_|refine zI ?_ ?_|exact zF0|refine zD fun hb=>?_|exact zC|refine zT ?_|fail))
    rw [<- hw];exact .inl rfl
 .have hM:lexM s=([],1,0):=by unfold lexM;rw [if_neg h4]
  rw [hM];refine FI PM Tryz.func127 Tryz.ntmps127 [] rfl rfl ?_
  (have hWf:=f0;repeat' (first|refine zS ?_|refine zI ?_ ?_|exact zF0|refine zD fun hb=>?_|exact zC|refine zT ?_|fail))
  exact wn rfl
end
section
open Go.RowKit Arb
theorem Rel.closeRC{x:Cx}{g:Gh}{σ:St}{a:Act}{w:World}(h:Rel x g σ a w){id e k i c:Nat}{rows:List (List D)}{rr:List D}{r d:D}{ob:Prop}{nm:Nat}(hb:σ.b id=some (.rw e k rows i rr))(hc:rr[c]?=some r)(hf:fdC σ r=some (ob,d))(ho:ob)(hr:idC r=some nm)(hne:nm≠id) :
  ∃ g',Rel x g' ((σ.sc (pOut [nm]) (pOut [nm])).setB id (.rw e k rows i ((rr.map (scC (pOut [nm]))).set c d))) a w:=by
 obtain ⟨b,cs,h1,h2,h3,h4,h5,h6,h7,h8,h9,h10,h11⟩:=h.ob id _ hb
 let π:Pos->Pos:=fun p=>match p with
  | .root m=>if m=nm then .cell b (i*k+c) else .root m
  | p=>p
 have ev:Ev (fun _=>True) π (pOut [nm]) (pOut [nm]) g ⟨g.β,g.κ,fun c=>(g.up c).map π,g.S⟩ w w:=by
  refine ⟨⟨fun c hc=>⟨hc,rfl⟩,fun c p hc _=>⟨by show (g.up c).map π=_;rw [hc];rfl,rfl⟩,fun c p o _ _=>⟨trivial,rfl⟩⟩,fun m _=>⟨rfl,rfl⟩,fun m hm=>⟨hm,trivial,?_⟩⟩
  exact if_neg (xC hm nm (by simp))
 have hR:=h.ev ev (Below.refl _ _) (fun b _ _=>rfl) (fun b _ hs=>.inl hs) h.new (fun c p hc=>by
  obtain ⟨p',hp',-⟩:=Option.map_eq_some_iff.1 (show (g.up c).map π=some p from hc);exact h.own c p' hp')
 refine ⟨_,hR.setB (id:=id) (o:=.rw e k rows i ((rr.map (scC (pOut [nm]))).set c d)) ⟨b,cs,h1,?_,h3,h4,h5,h6,h7,h8,by rw [List.length_set,List.length_map];exact h9,fun j d' hj=>?_,fun i' j row y r1 r2 r3=>Rep.move ev.toMv (h11 i' j row y r1 r2 r3) (fun _ _=>trivial)⟩ (h.par id _ hb)⟩
 .show (g.up b).map π=_
  rw [h2];exact congrArg some (if_neg (fun q=>hne q.symm))
 .rw [List.getElem?_set] at hj
  split at hj
  .rename_i e';subst e'
   split at hj
   .injection hj with hj
    subst hj;rcases X6 h hf ho (h10 c r hc) with ⟨q1,-⟩|⟨m,q1,q2⟩
    .rw [hr] at q1;cases q1
    .rw [hr] at q1;injection q1 with q1;subst q1
     have:=Rep.move ev.toMv q2 (fun _ _=>trivial)
     have e2:π (.root nm)=.cell b (i*k+c):=if_pos rfl;rw [Option.map_some,e2] at this
     exact this.rc
   .cases hj
  .rw [List.getElem?_map] at hj
   obtain ⟨d0,r1,rfl⟩:=Option.map_eq_some_iff.1 hj;exact (h10 j d0 r1).ev ev (fun _ _=>trivial)
theorem opqR_deep(us:Nat->Value)(rr:List D)(h:rr.all z9=true):opqR us rr=rr:=by
 refine List.ext_getElem? fun j=>?_
 rw [opqR,List.getElem?_mapIdx];cases hj:rr[j]? with
 | none=>rfl
 | some d=>
  have:=List.all_eq_true.1 h d (List.mem_of_getElem? hj);show some (if z9 d=true then d else _)=_
  rw [if_pos this]
theorem xbj{M:Md}{N:Nat}{σ:St}(id c nm:Nat){e k i:Nat}{rows:List (List D)}{rr:List D}{r d:D}{ob:Prop}(hb:σ.b id=some (.rw e k rows i rr))(hc:rr[c]?=some r)(hf:fdC σ r=some (ob,d))(ho:ob)(hr:idC r=some nm)(hne:nm≠id):Wk M N σ ((σ.sc (pOut [nm]) (pOut [nm])).setB id (.rw e k rows i ((rr.map (scC (pOut [nm]))).set c d))):=fun x g a w _ _ h=>h.closeRC hb hc hf ho hr hne
theorem xbk{M:Md}{N:Nat}{σ:St}(id:Nat){e k i:Nat}{rows:List (List D)}{rr:List D}(hb:σ.b id=some (.rw e k rows i rr))(h:rr.all z9=true):Wk M N σ (σ.setB id (.arr e k (rows.set i rr))):=fun x g a w _ _ hr=>by
 obtain ⟨us,q⟩:=hr.closeR hb;rw [opqR_deep us rr h] at q
 exact ⟨g,q⟩
theorem FCon.bareP{P:Program}{f:FuncId}{args:List D}{x:MProgram}{c a:Value}(h:FCon P f args (fun r _=>r=.tup [.ag x.own,.s c,.s a]\/(x=⟨[],[]⟩/\r=.tup [.ag [.nil,.nil],.s c,.s a]))):FCon P f args (fun r _=>r=.tup [.ag x.own,.s c,.s a]):=h.wk fun r o e'=>by
 rcases e' with rfl|⟨rfl,rfl⟩
 .exact ⟨_,rfl,fun _ _ _ q=>q⟩
 .refine ⟨_,rfl,fun g w v q=>?_⟩
  obtain ⟨us,rfl,n1,n2⟩:=q;refine ⟨us,rfl,by simpa using n1,fun m x u hx hu=>?_⟩
  match m,hx with
  | 0,hx=>
   obtain rfl:=Option.some.inj hx;obtain ⟨vs,rfl,m1,m2⟩:=n2 0 _ u rfl hu;refine ⟨vs,rfl,m1,fun l y u' hy hu'=>?_⟩
   match l,hy with
   | 0,hy=>
    obtain rfl:=Option.some.inj hy;exact Rep.nil_osl _ _ (m2 0 .nil u' rfl hu')
   | 1,hy=>
    obtain rfl:=Option.some.inj hy;exact Rep.nil_osl _ _ (m2 1 .nil u' rfl hu')
  | m+1,hx=>exact n2 (m+1) x u hx hu
noncomputable def uV(s:ByteArray):MProgram×Int×Int:=if (lexM s).2.1=0 then parT (lexM s).1 s.size else (⟨[],[]⟩,(lexM s).2.1,(lexM s).2.2)
theorem xax(s:ByteArray)(hs:s.size<=9223372036854775807)(h:¬ (lexM s).2.1=0):FT 54 [.s (.string s)] (fun r _=>r=.tup [.ag [.nil,.nil],.s (.int .i64 (lexM s).2.1),.s (.int .i64 (lexM s).2.2)]):=by
 have hl:=V4 s hs;unfold lexD at hl
 rcases hq:lexM s with ⟨T,c,a⟩
 rw [hq] at hl h
 simp only at hl h ⊢
 have f0:(c != 0)=true:=by simpa using h
 refine FI PM Tryz.func54 Tryz.ntmps54 [(8,5,[3,4],[(3,0),(3,1),(4,0),(4,1)],(lin [3,4] [0,1,2,3,4])),(13,11,[9],[(9,1),(9,2),(9,3),(9,4),(9,5),(9,6),(9,7),(9,8)],(lin [9] [0,1,2,3,4,5,6,7,8,9,10]))] rfl rfl ?_
 (have hWf:=w1 @f0;repeat' (first|refine zS ?_|refine zI ?_ ?_|((with_reducible apply xc);refine xu (hl) ?_;rintro _ _ rfl)|refine zU hl ?_|exact zF0|refine zD fun hb=>?_|exact zC|refine zT ?_|fail))
 all_goals rfl
theorem types_go{T:List MTok}{e:Int}{n:Nat}{l:List MType}{s:PS}(h:isS T e s (⟨#[116,121,112,101]⟩:ByteArray)=true){t:MType}{s1:PS}(h1:wc T e (advS s)=(t,s1)):y9 T e (n+1) l s=y9 T e n (l++[t]) s1:=by
 conv=>lhs;unfold y9
 rw [if_pos h,h1]
theorem xco{T:List MTok}{e:Int}{n:Nat}{l:List MType}{s:PS}(h:isS T e s (⟨#[116,121,112,101]⟩:ByteArray)=false):y9 T e n l s=(l,s):=by
 cases n with
 | zero=>rfl
 | succ n=>unfold y9;rw [if_neg (by rw [h];decide)]
theorem eNil(t:ET)(hs:t.size<=1000000):FT 24 [.nil,.ag (eV t)] (fun r o=>r=.osl 55 6 ((Arb.lay EI.node 0 t).map MNode.own)/\o=[.un,.ag [.un,.un,.un,.un,.un,.un,.un]]):=by
 have h:=(c_l03Lay t [] (by simpa using hs)).argNil
 simp only [List.length_nil,List.nil_append] at h
 exact h
def XM(ts:List MType):Bool:=ts.any fun t=>decide (t.cons.length>8)
theorem many_succ(ts:List MType)(k:Nat)(h:k<ts.length):XM (ts.take (k+1))=(XM (ts.take k)||decide (ts[k].cons.length>8)):=by
 unfold XM;rw [Y0 _ _ h]
theorem parse_ok(s:ByteArray)(hs:s.size<=9223372036854775807){T:List MTok}{a0:Int}(hq:lexM s=(T,0,a0)):FT 54 [.s (.string s)] (fun r _=>r=.tup [.ag (parT T s.size).1.own,.s (.int .i64 (parT T s.size).2.1),.s (.int .i64 (parT T s.size).2.2)]\/((parT T s.size).1=⟨[],[]⟩/\r=.tup [.ag [.nil,.nil],.s (.int .i64 (parT T s.size).2.1),.s (.int .i64 (parT T s.size).2.2)])):=by
 have hl:=V4 s hs;have hA:=Ul s;unfold lexD at hl
 rw [hq] at hl hA
 simp only at hl hA
 obtain ⟨hT4,hTn⟩:=hA;have hT:T.length<=10000:=by omega
 rcases hq1:y9 T s.size (T.length+1) [] ⟨0,0,0,[],[]⟩ with ⟨ts9,s9⟩
 rcases hq2:uA T s.size 101 s9 with ⟨ea,s2⟩
 have hpar:parT T s.size=if (if s2.code=0/\s2.i<T.length then xG T s.size s2 7 else s2).code≠0 then (⟨[],[]⟩,(if s2.code=0/\s2.i<T.length then xG T s.size s2 7 else s2).code,(if s2.code=0/\s2.i<T.length then xG T s.size s2 7 else s2).at_)
   else if ea.size>600\/ts9.length>8\/XM ts9=true then (⟨[],[]⟩,10,0) else (⟨ts9,Arb.lay EI.node 0 ea⟩,0,0):=by
  unfold parT U6;rw [hq1];simp only;rw [hq2]
  rfl
 obtain ⟨PR,hPR⟩:∃ PR,PR=parT T s.size:=⟨_,rfl⟩;rw [<- hPR];rw [hpar] at hPR
 clear hpar;refine FI PM Tryz.func54 Tryz.ntmps54 [(8,5,[3,4],[(3,0),(3,1),(4,0),(4,1)],(lin [3,4] [0,1,2,3,4])),(13,11,[9],[(9,1),(9,2),(9,3),(9,4),(9,5),(9,6),(9,7),(9,8)],(lin [9] [0,1,2,3,4,5,6,7,8,9,10]))] rfl rfl ?_
 iterate 3 (refine xE ?_;simp only [go_sem,simprocAttr];(have hWf:=f0;repeat' (first|refine zY ?_|refine zI ?_ ?_|((with_reducible apply xc);refine xu (hl) ?_;rintro _ _ rfl)|refine zU hl ?_|exact zF1|refine zD fun hb=>?_|exact zC|refine zT ?_|fail)))
 refine z8 1016 (.arr 234 4 (T.map MTok.own)) (by simp only [go_sem,simprocAttr]) rfl ?_
 iterate 4 (refine xE ?_;simp only [go_sem,simprocAttr,wN];(have hWf:=w1 @wN;repeat' (first|refine zY ?_|refine zI ?_ ?_|exact zF1|refine zD fun hb=>?_|exact zC|refine zT ?_|fail)))
 refine zJ 29 5 777 (row:=[.sl 4 (T.map MTok.enc),.s (.int .i64 0),.s (.int .i64 s.size),.s (.int .i64 0),.s (.int .i64 0),.nil,.nil]) 3 1 (by simp only [go_sem,simprocAttr,wN]) rfl (by decide) rfl (z8 777 (.arr 3 1 []) (by simp only [go_sem,simprocAttr]) rfl (zJ 29 6 7000029 (row:=[.sl 4 (T.map MTok.enc),.s (.int .i64 0),.s (.int .i64 s.size),.s (.int .i64 0),.s (.int .i64 0),.sl 1 [],.nil]) 9 1 (by simp only [go_sem,simprocAttr]) rfl (by decide) rfl (zJ 9 0 888 (row:=[.nil,.nil]) 63 3 (by simp only [go_sem,simprocAttr]) rfl (by decide) rfl ?_)))
 (refine xE ?_;simp only [go_sem,simprocAttr,wN];(have hWf:=w1 @wN;repeat' (first|refine zY ?_|refine zI ?_ ?_|exact zF1|refine zD fun hb=>?_|exact zC|refine zT ?_|fail)))
 refine xn (fun n σ=>∃ (j:Nat) (ts:List MType) (s':PS),n=T.length - s'.i/\T.length - s'.i<j/\WF T s'/\ts.length<=s'.i/\y9 T s.size j ts s'=(ts9,s9)/\σ.t 2=.bx 2 0/\σ.b 2=some (.box [.nil,.nil])/\σ.t 3=.s (.int .i64 0)/\σ.t 4=.s (.int .i64 0)/\σ.t 5=.sl 4 (T.map MTok.enc)/\σ.t 8=.bx 29 0/\σ.b 29=some (.box [.sl 4 (T.map MTok.enc),.s (.int .i64 s'.i),.s (.int .i64 s.size),.s (.int .i64 s'.code),.s (.int .i64 s'.at_),.sl 1 (s'.vars.map iE),.bs 7000029 1 s'.seen.length])/\σ.b 7000029=some (.arr 9 1 (s'.seen.map stE))/\σ.t 9=.bx 9 0/\σ.b 9=some (.box [.bs 888 3 ts.length,.nil])/\σ.b 888=some (.arr 63 3 (ts.map MType.own))) T.length ⟨T.length+1,[],⟨0,0,0,[],[]⟩,rfl,by show T.length - 0<_;omega,⟨Nat.zero_le _,Nat.le_refl _⟩,Nat.zero_le _,hq1,?_⟩ ?_
 .simp only [go_sem,simprocAttr,List.map_nil]
  done
 .rintro m σ ⟨j,ts,s',rfl,hj,hw,htl,hap,g2,g2b,g3,g4,g5,g8,g29,g7,g9,g9b,g888⟩ K' hK
  have his:=xD T s.size s' (⟨#[116,121,112,101]⟩:ByteArray);have hwi:=hw.1;rw [xh] at his
  cases hty:isS T s.size s' (⟨#[116,121,112,101]⟩:ByteArray) with
  | true=>
   obtain ⟨j,rfl⟩:∃ q,j=q+1:=⟨j - 1,by omega⟩
   have hlt:=(xA hty (xa (l:=[116,121,112,101]) (by simp))).2
   rw [hty] at his
   have htc:=c_l03Type T s.size hT (advS s') hlt;have bt:=type_bd (T:=T) (e:=s.size) (advS s');have vt:=type_seen (T:=T) (e:=s.size) (advS s');rcases hqt:wc T s.size (advS s') with ⟨t,s1⟩
   rw [hqt] at htc bt vt
   rw [types_go hty hqt] at hap
   simp only at htc bt vt
   have hge:=bt.1;have hle:=bt.2 hlt;rw [xK] at hge
   have hown:=MType.own_eq t;have w1:WF T s1:=⟨hle,by rw [vt];show s'.seen.length<=_;have:=hw.2;omega⟩
   unfold advS at htc
   rw [hown,xb,xb] at htc
   (have hWf:=w10 @g2 @g2b @g3 @g4 @g5 @g8 @g29 @g7 @g9 (ai @g9b<|ai @g888<|ai @wN<|ai @xe<|@xd);repeat' (first|refine zS ?_|refine zI ?_ ?_|refine zK his ?_|refine zX htc ?_|((with_reducible apply xc);refine xu (htc) ?_;rintro _ _ ⟨rfl,rfl⟩)|exact zF0|refine zD fun hb=>?_|exact zC|refine zT ?_|fail))
   refine hK (T.length - s1.i) _ (by omega) ⟨j,ts++[t],s1,rfl,by omega,w1,by rw [List.length_append];show ts.length+1<=_;omega,hap,?_⟩
   simp only [go_sem,simprocAttr,g2,g2b,g3,g4,g5,g8,g29,g7,g9,g9b,g888,wN,xe,xd,List.map_append,List.length_append,hown]
   done
  | false=>
   rw [hty] at his
   rw [xco hty] at hap
   injection hap with e1 e2
   subst e1 e2;have hr:=c_l03Expr (e:=s.size) hT hTn 101 (Nat.le_refl _) s' hw;have mr:=U1 (T:=T) (e:=s.size) 101 s';rw [show (101:Int) - ((101:Nat):Int)=0 by rfl] at hr
   rw [hq2] at hr mr
   obtain ⟨mr,hsz⟩:=mr;have w2:=mr.wf hw;simp only at hr mr hsz w2
   have hwi2:=w2.1;obtain ⟨ek,el⟩:=ea;rw [xr,xb,xb] at hr
   clear hq1 hq2
   by_cases z:s2.code=0
   .have f0:=kT z
    have f1:(s2.code != 0)=false:=by rw [z];rfl
    by_cases zi:s2.i<T.length
    .have hlt':decide ((s2.i:Int)<(T.length:Int))=true:=by simpa using zi
     have hf:=y3 T s.size s2 7;rw [if_pos (c:=s2.code=0/\s2.i<T.length) ⟨z,zi⟩] at hPR
     have hc3:(xG T s.size s2 7).code=7:=by unfold xG;rw [if_pos z]
     generalize xG T s.size s2 7=s3 at *
     rw [if_pos (by rw [hc3];decide)] at hPR
     subst hPR;have f3:(s3.code != 0)=true:=by rw [hc3];rfl
     rw [xb,xb] at hf
     (have hWf:=w10 @g2 @g2b @g3 @g4 @g5 @g8 @g29 @g7 @g9 (ai @g9b<|ai @g888<|ai @wN<|ai @xe<|ai @xd<|ai @f0<|ai @hlt'<|@f3);repeat' (first|refine zS ?_|refine zI ?_ ?_|refine zK his ?_|refine zH hr ?_|refine zH hf ?_|exact zF0|refine zD fun hb=>?_|exact zC|refine zT ?_|fail))
     all_goals exact .inr ⟨rfl,rfl⟩
    .have hlt':decide ((s2.i:Int)<(T.length:Int))=false:=by simpa using zi
     rw [if_neg (c:=s2.code=0/\s2.i<T.length) (fun h=>zi h.2),if_neg (c:=s2.code≠0) (fun q=>q z)] at hPR
     have hlay:=eNil (.mk ek el) (by omega)
     have hln:(Arb.lay EI.node 0 (.mk ek el)).length=(Arb.mk ek el:ET).size:=Arb.lay_len _ _;rw [xr] at hlay
     (have hWf:=w10 @g2 @g2b @g3 @g4 @g5 @g8 @g29 @g7 @g9 (ai @g9b<|ai @g888<|ai @wN<|ai @xe<|ai @xd<|ai @f0<|ai @f1<|@hlt');repeat' (first|refine zS ?_|refine zI ?_ ?_|refine zK his ?_|refine zH hr ?_|refine zH hlay ?_|exact zF0|refine zD fun hb=>?_|exact zC|refine zT ?_|fail))
     generalize hm0:(decide (((Arb.lay EI.node 0 (.mk ek el)).length:Int)>600)||decide ((ts.length:Int)>8))=m0
     refine AC_loopW (fun n σ=>∃ k:Nat,k<=ts.length/\n=ts.length - k/\σ.t 2=.bx 2 0/\σ.b 2=some (.box [.nil,.nil])/\σ.t 3=.s (.int .i64 0)/\σ.t 4=.s (.int .i64 0)/\σ.t 9=.bx 9 0/\σ.b 9=some (.box [.bs 888 3 ts.length,.bs 1080 6 (Arb.lay EI.node 0 (.mk ek el)).length])/\σ.b 888=some (.arr 63 3 (ts.map MType.own))/\σ.b 1080=some (.arr 55 6 ((Arb.lay EI.node 0 (.mk ek el)).map MNode.own))/\σ.t 11=.s (.bool (m0||XM (ts.take k)))/\σ.t 93=.bs 888 3 ts.length/\σ.t 94=.s (.int .i64 ts.length)/\σ.t 95=.s (.int .i64 k)) ts.length ⟨0,Nat.zero_le _,rfl,?_⟩ ?_
     .have hmn:XM []=false:=rfl
      simp only [go_sem,simprocAttr,g2,g2b,g3,g4,g5,g8,g29,g7,g9,g9b,g888,wN,xe,xd,hmn,hm0,Bool.or_false]
      done
     .clear g2 g2b g3 g4 g5 g8 g29 g7 g9 g9b g888 hK
      rintro m σ ⟨k,hk,rfl,g2,g2b,g3,g4,g9,g9b,g888,gn,g11,g93,g94,g95⟩ K2 hK
      by_cases hkl:k<ts.length
      .have hms:=many_succ ts k hkl
       have hown:=MType.own_eq ts[k];have hrow:(ts.map MType.own)[k]?=some [.s (.string ts[k].name),.s (.int .i64 ts[k].params),.osl 68 3 (ts[k].cons.map MCon.own)]:=by rw [List.getElem?_map,List.getElem?_eq_getElem hkl,Option.map_some,hown]
       have hset:(ts.map MType.own).set k [.s (.string ts[k].name),.s (.int .i64 ts[k].params),.osl 68 3 (ts[k].cons.map MCon.own)]=ts.map MType.own:=by
        refine List.ext_getElem? fun i=>?_
        rw [List.getElem?_set];split
        .rename_i e';subst e'
         rw [if_pos (by rw [List.length_map];exact hkl),hrow]
        .rfl
       refine WW 888 k g888 hrow (Xp 888 2 889 (e:=63) (k:=3) (i:=k) (rows:=ts.map MType.own) (rr:=[.s (.string ts[k].name),.s (.int .i64 ts[k].params),.osl 68 3 (ts[k].cons.map MCon.own)]) (d:=.osl 68 3 (ts[k].cons.map MCon.own)) (o:=.arr 68 3 (ts[k].cons.map MCon.own)) (by simp only [go_sem,simprocAttr]) rfl rfl (by decide) rfl ?_)
       rcases Bool.eq_false_or_eq_true (decide ((ts[k].cons.length:Int)>8)) with gb|gb
       all_goals
        have hgb:decide (ts[k].cons.length>8)=decide ((ts[k].cons.length:Int)>8):=by
         by_cases q:ts[k].cons.length>8
         .rw [decide_eq_true q,decide_eq_true (by omega)]
         .rw [decide_eq_false q,decide_eq_false (by omega)]
        rw [hgb,gb] at hms
        (have hWf:=w10 @g2 @g2b @g3 @g4 @g9 @g9b @g888 @gn @g11 (ai @g93<|ai @g94<|ai @g95<|@gb);repeat' (first|refine zS ?_|refine zI ?_ ?_|exact zF0|refine zD fun hb=>?_|exact zC|refine zT ?_|fail))
        refine hK (ts.length - (k+1)) _ _ (by omega) ((xbj 888 2 889 (e:=63) (k:=3) (i:=k) (rows:=ts.map MType.own) (rr:=[.s (.string ts[k].name),.s (.int .i64 ts[k].params),.bs 889 3 ts[k].cons.length]) (r:=.bs 889 3 ts[k].cons.length) (d:=.osl 68 3 (ts[k].cons.map MCon.own)) (ob:=3=3/\ts[k].cons.length<=(ts[k].cons.map MCon.own).length) ?_ rfl ?_ ⟨rfl,by rw [List.length_map];exact Nat.le_refl _⟩ rfl (by decide)).trans (xbk 888 (e:=63) (k:=3) (i:=k) (rows:=ts.map MType.own) (rr:=[.s (.string ts[k].name),.s (.int .i64 ts[k].params),.osl 68 3 (ts[k].cons.map MCon.own)]) ?_ rfl)) ⟨k+1,by omega,rfl,?_⟩
        .simp only [go_sem,simprocAttr]
         done
        .simp only [go_sem,simprocAttr]
         done
        .simp only [go_sem,simprocAttr]
         done
        .simp only [go_sem,simprocAttr,g2,g2b,g3,g4,g9,g9b,g888,gn,g11,g93,g94,g95,Int.natCast_succ,hset,hms,Bool.or_true,Bool.or_false]
         done
      .obtain rfl:k=ts.length:=by omega
       rw [List.take_length] at g11
       have hM:((Arb.mk ek el:ET).size>600\/ts.length>8\/XM ts=true) ↔ (m0||XM ts)=true:=by
        rw [<- hm0,hln];simp only [Bool.or_eq_true,decide_eq_true_eq];rw [or_assoc];exact or_congr (by omega) (or_congr (by omega) Iff.rfl)
       rcases Bool.eq_false_or_eq_true (m0||XM ts) with gm|gm
       .rw [if_pos (hM.2 gm)] at hPR
        subst hPR;rw [gm] at g11
        (have hWf:=w10 @g2 @g2b @g3 @g4 @g9 @g9b @g888 @gn @g11 (ai @g93<|ai @g94<|@g95);repeat' (first|refine zS ?_|refine zI ?_ ?_|exact zF0|refine zD fun hb=>?_|exact zC|refine zT ?_|fail))
        all_goals exact .inr ⟨rfl,rfl⟩
       .rw [if_neg (fun q=>by rw [hM.1 q] at gm;cases gm)] at hPR
        subst hPR;rw [gm] at g11
        (have hWf:=w10 @g2 @g2b @g3 @g4 @g9 @g9b @g888 @gn @g11 (ai @g93<|ai @g94<|@g95);repeat' (first|refine zS ?_|refine zI ?_ ?_|exact zF0|refine zD fun hb=>?_|exact zC|refine zT ?_|fail))
        all_goals exact .inl rfl
   .have f0:=kF z
    have f1:(s2.code != 0)=true:=by simpa using z
    rw [if_neg (c:=s2.code=0/\s2.i<T.length) (fun h=>z h.1),if_pos (c:=s2.code≠0) z] at hPR
    subst hPR
    (have hWf:=w10 @g2 @g2b @g3 @g4 @g5 @g8 @g29 @g7 @g9 (ai @g9b<|ai @g888<|ai @wN<|ai @xe<|ai @xd<|ai @f0<|@f1);repeat' (first|refine zS ?_|refine zI ?_ ?_|refine zK his ?_|refine zH hr ?_|exact zF0|refine zD fun hb=>?_|exact zC|refine zT ?_|fail))
    all_goals exact .inr ⟨rfl,rfl⟩
theorem YD(s:ByteArray)(hs:s.size<=9223372036854775807):FT 54 [.s (.string s)] (fun r _=>r=.tup [.ag (uV s).1.own,.s (.int .i64 (uV s).2.1),.s (.int .i64 (uV s).2.2)]):=by
 refine FCon.bareP ?_;unfold uV;rcases hq:lexM s with ⟨T,c,a⟩
 by_cases h:c=0
 .subst h
  rw [if_pos rfl];exact parse_ok s hs hq
 .rw [if_neg h]
  have:=xax s hs (by rw [hq];exact h)
  rw [hq] at this
  exact this.mono fun r _ q=>.inr ⟨rfl,q⟩
end
section
theorem quoB_pos(b:UInt8):1<=(quoB b).length:=by
 unfold quoB
 repeat' split
 all_goals simp
theorem flat_len(l:List UInt8):l.length<=(l.flatMap quoB).length:=by
 induction l with
 | nil=>exact Nat.le_refl _
 | cons b l ih=>
  rw [List.flatMap_cons,List.length_append,List.length_cons];have:=quoB_pos b;omega
theorem unqO_len{l t:List UInt8}(h:unqO l=some t):t.length<=l.length:=by
 unfold unqO at h
 split at h
 .rename_i q
  injection h with h
  have hs:=q.choose_spec;rw [h] at hs
  have h1:=congrArg List.length hs;unfold quoL at h1
  rw [List.length_append,List.length_cons] at h1
  have:=flat_len t;omega
 .cases h
def sOk(s:ByteArray)(t:MTok):Prop:=t.s.size<=s.size
theorem extS_le(s:ByteArray)(i j:Nat):(s.extract i j).size<=s.size:=by
 rw [ByteArray.size_extract];omega
theorem tokM_s(s:ByteArray)(i:Nat):sOk s (tokM s i).1:=by
 have h0:∀ (k n a:Int),sOk s ⟨k,n,noB,a⟩:=fun k n a=>Nat.zero_le _
 have h1:∀ (k n a:Int) (i j:Nat),sOk s ⟨k,n,s.extract i j,a⟩:=fun k n a i j=>extS_le s i j
 unfold tokM;split
 .split
  .exact h0 _ _ _
  .exact h0 _ _ _
 .split
  .split
   .exact h1 _ _ _ _ _
   .split
    .exact h1 _ _ _ _ _
    .split<;>exact h1 _ _ _ _ _
  .split
   .exact h0 _ _ _
   .split
    .split
     .exact h0 _ _ _
     .split
      .exact h0 _ _ _
      .rename_i q
       have h2:=unqO_len q;exact Nat.le_trans h2 (extS_le s i _)
    .split
     .exact h0 _ _ _
     .rename_i q
      rcases YI s i with q1|q1
      .exact absurd q1 q
      .show (y8 s i).size<=s.size
       omega
def TokK(s:ByteArray)(t:MTok):Prop:=nOk t/\sOk s t/\0<=t.at_/\t.at_<=(s.size:Nat)
theorem Wy(s:ByteArray):∀ (f i:Nat) (acc:List MTok),(∀ t∈acc,TokK s t)->∀ t∈(lexF s f i acc).1,TokK s t
 | 0,i,acc,h=>h
 | f+1,i,acc,h=>by
  by_cases hi:s.size<=i
  .rw [Ui hi];exact h
  .have hi:i<s.size:=by omega
   cases hb:uo (bAt s i) with
   | true=>rw [Zd hi hb];exact Wy s f (i+1) acc h
   | false=>
    cases hl:hasM s lpB i with
    | true=>
     cases hr:remM s i with
     | none=>rw [Ze hi hb hl hr];exact fun t ht=>by cases ht
     | some j=>rw [Uj hi hb hl hr];exact Wy s f j acc h
    | false=>
     by_cases hc:(tokM s i).2.2=0
     .have hd:=tokM_bd hi hc
      rw [Uk hi hb hl hc];refine Wy s f _ _ (fun t ht=>?_)
      rcases List.mem_append.1 ht with q|q
      .exact h t q
      .rw [List.mem_singleton.1 q]
       exact ⟨tokM_n s i,tokM_s s i,by rw [hd.2.2];omega,by rw [hd.2.2];omega⟩
     .rw [Uh hi hb hl hc];exact fun t ht=>by cases ht
theorem lexM_tb(s:ByteArray):∀ t∈(lexM s).1,TB t:=by
 unfold lexM;split
 .rename_i h
  intro t ht;obtain ⟨h1,h2,h3,h4⟩:=Wy s s.size 0 [] (fun t ht=>by cases ht) t ht
  exact ⟨⟨by omega,by omega⟩,h1,Nat.le_trans h2 h⟩
 .intro t ht;cases ht
theorem spar_good(s:ByteArray)(hs:s.size<=9223372036854775807):Good (uV s).1:=by
 unfold uV;split
 .exact parT_good (lexM_tb s) ⟨by omega,by omega⟩ (by have:=(Ul s).1;omega)
 .exact Uc
end
section
open Arb
def pvN(n:MNode):Nat:=qz n.pats
def pvs(p:MProgram):Nat:=sumN pvN p.nodes
theorem pvs_lay(t:ET)(ts:List MType):pvs ⟨ts,Arb.lay EI.node 0 t⟩=wz ek t:=wz_lay EI.node ek pvN (fun a l=>rfl) t 0
theorem pvN_app1(kd at_ n:Int)(s:ByteArray)(ks:List Int)(ps:List MPat)(y:DPNode):pvN ⟨kd,at_,n,s,ks,ps++[⟨[y]⟩]⟩<=pvN ⟨kd,at_,n,s,ks,ps⟩+1:=by
 show qz (ps++_)<=qz ps+1;rw [qz_app];have:qz [⟨[y]⟩]<=1:=by
  show pvn _+0<=1;unfold pvn pnames;rw [List.length_map];exact List.length_filter_le _ _
 omega
def FewN(n:MNode):Prop:=n.kids.length<=600/\n.pats.length<=20000
theorem parT_pv{T:List MTok}{e:Int}(hT:∀ t∈T,TB t)(he:I64 e)(hTl:T.length<=10000):pvs (parT T e).1<=T.length/\∀ n∈(parT T e).1.nodes,FewN n:=by
 unfold parT U6;have a:=types_i hT he hTl (T.length+1) [] ⟨0,0,0,[],[]⟩ (Nat.zero_le _) xR;rcases h1:y9 T e (T.length+1) [] ⟨0,0,0,[],[]⟩ with ⟨ts,s1⟩
 rw [h1] at a
 have b:=expr_w (T:=T) (e:=e) 101 s1;have o:=expr_o hT he hTl 101 s1 a.2;simp only;rcases h2:uA T e 101 s1 with ⟨t,s2⟩
 rw [h2] at b o
 simp only;have hb:wz ek t<=T.length:=by
  have q1:=b.1.2.1 a.2;have q2:=b.2;simp only at q1 q2
  omega
 generalize (if s2.code=0/\s2.i<T.length then xG T e s2 7 else s2)=s3
 split
 .exact ⟨Nat.zero_le _,fun n hn=>by cases hn⟩
 .split
  .exact ⟨Nat.zero_le _,fun n hn=>by cases hn⟩
  .rename_i h
   simp only [not_or] at h
   refine ⟨?_,fun n hn=>?_⟩
   .show pvs ⟨ts,Arb.lay EI.node 0 t⟩<=_
    rw [pvs_lay];exact hb
   .have o:AllT EOk t:=o
    obtain ⟨x,ks,rfl,⟨a1,a2,a3,a4,a5,a6⟩,g1,g2⟩:=AllT.lay EI.node t o 0 n hn;have:=h.1;exact ⟨by show ks.length<=_;omega,a5⟩
theorem spar_pv(s:ByteArray):pvs (uV s).1<=s.size/\∀ n∈(uV s).1.nodes,FewN n:=by
 unfold uV;split
 .obtain ⟨h1,h2⟩:=parT_pv (lexM_tb s) (e:=s.size) (by
   rename_i h;unfold lexM at h
   split at h
   .exact ⟨by omega,by omega⟩
   .simp at h) (by have:=(Ul s).1;omega)
  refine ⟨Nat.le_trans h1 ?_,h2⟩;unfold lexM;split
  .exact (Yb s s.size 0 [] (Nat.zero_le _) (Nat.zero_le _) (fun t ht=>by cases ht)).1
  .exact Nat.zero_le _
 .exact ⟨Nat.zero_le _,fun n hn=>by cases hn⟩
end
section
open Go.RowKit
structure GoodQ(p:MProgram):Prop where
 good:Good p
 pv:pvs p<=1100
 few:∀ n∈p.nodes,FewN n
def GoodR(r:D):Prop:=∃ p:MProgram,r=.ag p.own/\GoodQ p
theorem spar_q(s:ByteArray)(hs:s.size<=1100):GoodQ (uV s).1:=⟨spar_good s (by omega),Nat.le_trans (spar_pv s).1 hs,(spar_pv s).2⟩
theorem Q2(c:Cur):FT 174 [c.d] (fun r o=>GoodR r/\∃ c',o=[Cur.d c']):=by
 obtain ⟨x,c1,x0,x1,B1⟩:=xF c (n:=12) (by omega) (by omega)
 obtain ⟨y,c2,y0,y1,B2⟩:=xF c1 (n:=3) (by omega) (by omega)
 obtain ⟨y,rfl⟩:=Int.eq_ofNat_of_zero_le y0;refine FI PM Tryz.func174 Tryz.ntmps174 [] rfl rfl ?_
 (have hWf:=f0;repeat' (first|refine zS ?_|refine zI ?_ ?_|refine zH B1 ?_|((with_reducible apply xc);refine xu (ZK x x0 x1) ?_;rintro _ _ ⟨s,rfl,hs⟩)|refine zU (ZK x x0 x1) ?_|refine zH B2 ?_|exact zF0|refine zD fun hb=>?_|exact zC|refine zT ?_|fail))
 refine xn (fun n σ=>∃ (m:Nat) (c':Cur) (s:ByteArray),n=m/\s.size+20*m<=1060/\m<=3/\σ.t 0=.bx 900000 0/\σ.b 900000=some (.box [.sl 1 (c'.zs.map u8E),.s (.int .i64 c'.k),.s (.int .i64 c'.h)])/\σ.t 2=.bx 2 0/\σ.b 2=some (.box [.nil,.nil])/\σ.t 3=.s (.string s)/\σ.t 4=.s (.int .i64 m)) y ⟨y,c2,s,rfl,by omega,by omega,?_⟩ ?_
 .simp only [go_sem,simprocAttr]
  done
 .rintro n σ ⟨m,c',s',rfl,hm,hm3,h0,hb0,h2,hb2,h3,h4⟩ K' hK
  by_cases hz:n=0
  .subst hz
   have hp:=YD s' (by omega)
   have hg:=spar_q s' (by omega)
   generalize uV s'=q at hp hg
   obtain ⟨p,z,a⟩:=q;simp only at hp hg
   rw [MProgram.own_eq] at hp
   (have hWf:=w7 @h0 @hb0 @h2 @hb2 @h3 @h4 @Int.natCast_zero;repeat' (first|refine zS ?_|refine zI ?_ ?_|((with_reducible apply xc);refine xu (hp) ?_;rintro _ _ rfl)|refine zU hp ?_|exact zF0|refine zD fun hb=>?_|exact zC|refine zT ?_|fail))
   .exact ⟨p,rfl,hg⟩
   .exact ⟨c',rfl⟩
  .obtain ⟨m,rfl⟩:∃ m,n=m+1:=⟨n - 1,by omega⟩
   have e1:decide ((((m+1:Nat):Int))>0)=true:=by simp
   (have hWf:=w7 @h0 @hb0 @h2 @hb2 @h3 @h4 @e1;repeat' (first|refine zS ?_|refine zI ?_ ?_|((with_reducible apply xc);refine xu (VV c' s' (by omega)) ?_;rintro _ _ ⟨⟨s2,rfl,hs2⟩,c3,rfl⟩)|refine zU (VV c' s' (by omega)) ?_|exact zF0|refine zD fun hb=>?_|exact zC|refine zT ?_|fail))
   have hp:=YD s2 (by omega)
   generalize uV s2=q at hp
   obtain ⟨p,z,a⟩:=q;simp only at hp
   rw [MProgram.own_eq] at hp
   rcases Bool.eq_false_or_eq_true (z==0) with gz|gz
   all_goals
    (have hWf:=w8 @h0 @hb0 @h2 @hb2 @h3 @h4 @e1 @gz;repeat' (first|refine zS ?_|refine zI ?_ ?_|((with_reducible apply xc);refine xu (hp) ?_;rintro _ _ rfl)|refine zU hp ?_|exact zF0|refine zD fun hb=>?_|exact zC|refine zT ?_|fail))
   .refine hK m _ (by omega) ⟨m,c3,s2,rfl,by omega,by omega,?_⟩
    simp only [go_sem,simprocAttr,h0,hb0,h2,hb2,h3,h4,cast1]
    all_goals exact xN (by omega)
   .refine hK m _ (by omega) ⟨m,c3,s',rfl,by omega,by omega,?_⟩
    simp only [go_sem,simprocAttr,h0,hb0,h2,hb2,h3,h4,cast1]
    all_goals exact xN (by omega)
theorem V1(c:Cur):FT 173 [c.d] (fun r o=>StrR 1000 r/\∃ c',o=[Cur.d c']):=by
 obtain ⟨q,c3,q0,q1,B3⟩:=xF c (n:=((20:Nat):Int)) (by simp) (by simp)
 obtain ⟨q,rfl⟩:=Int.eq_ofNat_of_zero_le q0;have hq:q<20:=by omega
 refine FI PM Tryz.func173 Tryz.ntmps173 [] rfl rfl ?_
 iterate 2 (refine xE ?_;simp only [go_sem,simprocAttr];(have hWf:=f0;repeat' (first|refine zY ?_|refine zI ?_ ?_|exact zF1|refine zD fun hb=>?_|exact zC|refine zT ?_|fail)))
 refine AC_gen 4 (by (simp only [go_sem,simprocAttr]);rfl) (fun rows=>∃ ss:List ByteArray,rows=ss.map stE/\ss.length=20/\∀ x∈ss,x.size<=500) ?_ ?_
 .exact ⟨[_,_,_,_,_,_,_,_,_,_,_,_,_,_,_,_,_,_,_,_],rfl,rfl,by decide +kernel⟩
 rintro rows ⟨ss,rfl,hl,hsz⟩
 have hx:=xi stE ss q (by omega)
 have he:=xH (ss[q]'(by omega))
 have hss:=hsz _ (List.getElem_mem (show q<ss.length by omega))
 have hlen:((ss.map stE).length:Nat)=20:=by simp [hl]
 (have hWf:=w3 @hx @he @hlen;repeat' (first|refine zS ?_|refine zI ?_ ?_|refine zH B3 ?_|exact zF0|refine zD fun hb=>?_|exact zC|refine zT ?_|fail))
 all_goals first|exact ⟨_,rfl,by omega⟩|exact ⟨c3,rfl⟩
theorem V2(c:Cur):FT 93 [c.d] (fun r o=>StrR 1100 r/\∃ c',o=[Cur.d c']):=by
 obtain ⟨q,c1,q0,q1,B1⟩:=xF c (n:=((19:Nat):Int)) (by simp) (by simp)
 obtain ⟨k,c2,k0,k1,B2⟩:=xF c1 (n:=3) (by omega) (by omega)
 obtain ⟨z,c3,z0,z1,B3⟩:=xF c2 (n:=((19:Nat):Int)) (by simp) (by simp)
 obtain ⟨q,rfl⟩:=Int.eq_ofNat_of_zero_le q0;obtain ⟨z,rfl⟩:=Int.eq_ofNat_of_zero_le z0;have hq:q<19:=by omega
 have hz:z<19:=by omega
 refine FI PM Tryz.func93 Tryz.ntmps93 [] rfl rfl ?_
 iterate 2 (refine xE ?_;simp only [go_sem,simprocAttr];(have hWf:=f0;repeat' (first|refine zY ?_|refine zI ?_ ?_|exact zF1|refine zD fun hb=>?_|exact zC|refine zT ?_|fail)))
 refine AC_gen 5 (by (simp only [go_sem,simprocAttr]);rfl) (fun rows=>∃ ss:List ByteArray,rows=ss.map stE/\ss.length=19/\∀ x∈ss,x.size<=500) ?_ ?_
 .exact ⟨[_,_,_,_,_,_,_,_,_,_,_,_,_,_,_,_,_,_,_],rfl,rfl,by decide +kernel⟩
 rintro rows ⟨ss,rfl,hl,hsz⟩
 have hx:=xi stE ss q (by omega)
 have he:=xH (ss[q]'(by omega))
 have hss:=hsz _ (List.getElem_mem (show q<ss.length by omega))
 have hx2:=xi stE ss z (by omega)
 have he2:=xH (ss[z]'(by omega))
 have hss2:=hsz _ (List.getElem_mem (show z<ss.length by omega))
 have hlen:((ss.map stE).length:Nat)=19:=by simp [hl]
 by_cases hk:k=0
 .subst hk
  (have hWf:=w5 @hx @he @hx2 @he2 @hlen;repeat' (first|refine zS ?_|refine zI ?_ ?_|refine zH B1 ?_|refine zH B2 ?_|refine zX B3 ?_|((with_reducible apply xc);refine xu (B3) ?_;rintro _ _ ⟨rfl,rfl⟩)|exact zF0|refine zD fun hb=>?_|exact zC|refine zT ?_|fail))
  all_goals first
   | exact ⟨c3,rfl⟩
   | exact ⟨_,rfl,by have a1:(#[108,101,116,32,122,32,61,32]:Array UInt8).size=8:=rfl;have a2:(#[32,105,110,32]:Array UInt8).size=4:=rfl;rw [ByteArray.size_append,ByteArray.size_append,ByteArray.size_append];show (#[108,101,116,32,122,32,61,32]:Array UInt8).size+_+(#[32,105,110,32]:Array UInt8).size+_<=_;omega⟩
   | (have a1:(#[108,101,116,32,122,32,61,32]:Array UInt8).size=8:=rfl;have a2:(#[32,105,110,32]:Array UInt8).size=4:=rfl;omega)
 .have f0:=kF hk
  (have hWf:=w4 @hx @he @hlen @f0;repeat' (first|refine zS ?_|refine zI ?_ ?_|refine zH B1 ?_|refine zH B2 ?_|exact zF0|refine zD fun hb=>?_|exact zC|refine zT ?_|fail))
  all_goals first|exact ⟨_,rfl,by omega⟩|exact ⟨c2,rfl⟩
theorem kT'{k z:Int}(h:k=z):(k==z)=true:=by simpa using h
theorem kF'{k z:Int}(h:¬ k=z):(k==z)=false:=by simpa using h
theorem VU(c:Cur):∃ (s:ByteArray) (c':Cur),s.size<=20/\FT 232 [c.d] (fun r o=>r=.s (.string s)/\o=[Cur.d c']):=by
 obtain ⟨q,c3,q0,q1,B3⟩:=xF c (n:=17) (by omega) (by omega)
 have hq:q=0\/q=1\/q=2\/q=3\/q=4\/q=5\/q=6\/q=7\/q=8\/q=9\/q=10\/q=11\/q=12\/q=13\/q=14\/q=15\/q=16:=by omega
 rcases hq with rfl|rfl|rfl|rfl|rfl|rfl|rfl|rfl|rfl|rfl|rfl|rfl|rfl|rfl|rfl|rfl|rfl
 .refine ⟨⟨#[]⟩,c3,by decide,?_⟩
  refine FI PM Tryz.func232 Tryz.ntmps232 [] rfl rfl ?_
  (have hWf:=w2 @int0 @ye;repeat' (first|refine zS ?_|refine zI ?_ ?_|refine zH B3 ?_|exact zF0|refine zD fun hb=>?_|exact zC|refine zT ?_|fail))
  all_goals first|rfl|exact ⟨rfl,rfl⟩
 .refine ⟨⟨#[97]⟩,c3,by decide,?_⟩
  refine FI PM Tryz.func232 Tryz.ntmps232 [] rfl rfl ?_
  (have hWf:=w2 @int0 @ye;repeat' (first|refine zS ?_|refine zI ?_ ?_|refine zH B3 ?_|exact zF0|refine zD fun hb=>?_|exact zC|refine zT ?_|fail))
  all_goals first|rfl|exact ⟨rfl,rfl⟩
 .refine ⟨⟨#[97,66,95,57]⟩,c3,by decide,?_⟩
  refine FI PM Tryz.func232 Tryz.ntmps232 [] rfl rfl ?_
  (have hWf:=w2 @int0 @ye;repeat' (first|refine zS ?_|refine zI ?_ ?_|refine zH B3 ?_|exact zF0|refine zD fun hb=>?_|exact zC|refine zT ?_|fail))
  all_goals first|rfl|exact ⟨rfl,rfl⟩
 .refine ⟨⟨#[97,98,99,100,101,102,103,104,105,106,107,108]⟩,c3,by decide,?_⟩
  refine FI PM Tryz.func232 Tryz.ntmps232 [] rfl rfl ?_
  (have hWf:=w2 @int0 @ye;repeat' (first|refine zS ?_|refine zI ?_ ?_|refine zH B3 ?_|exact zF0|refine zD fun hb=>?_|exact zC|refine zT ?_|fail))
  all_goals first|rfl|exact ⟨rfl,rfl⟩
 .refine ⟨⟨#[97,98,99,100,101,102,103,104,105,106,107,108,109]⟩,c3,by decide,?_⟩
  refine FI PM Tryz.func232 Tryz.ntmps232 [] rfl rfl ?_
  (have hWf:=w2 @int0 @ye;repeat' (first|refine zS ?_|refine zI ?_ ?_|refine zH B3 ?_|exact zF0|refine zD fun hb=>?_|exact zC|refine zT ?_|fail))
  all_goals first|rfl|exact ⟨rfl,rfl⟩
 .refine ⟨⟨#[65]⟩,c3,by decide,?_⟩
  refine FI PM Tryz.func232 Tryz.ntmps232 [] rfl rfl ?_
  (have hWf:=w2 @int0 @ye;repeat' (first|refine zS ?_|refine zI ?_ ?_|refine zH B3 ?_|exact zF0|refine zD fun hb=>?_|exact zC|refine zT ?_|fail))
  all_goals first|rfl|exact ⟨rfl,rfl⟩
 .refine ⟨⟨#[67,111,110,115]⟩,c3,by decide,?_⟩
  refine FI PM Tryz.func232 Tryz.ntmps232 [] rfl rfl ?_
  (have hWf:=w2 @int0 @ye;repeat' (first|refine zS ?_|refine zI ?_ ?_|refine zH B3 ?_|exact zF0|refine zD fun hb=>?_|exact zC|refine zT ?_|fail))
  all_goals first|rfl|exact ⟨rfl,rfl⟩
 .refine ⟨⟨#[65,66,67,68,69,70,71,72,73,74,75,76]⟩,c3,by decide,?_⟩
  refine FI PM Tryz.func232 Tryz.ntmps232 [] rfl rfl ?_
  (have hWf:=w2 @int0 @ye;repeat' (first|refine zS ?_|refine zI ?_ ?_|refine zH B3 ?_|exact zF0|refine zD fun hb=>?_|exact zC|refine zT ?_|fail))
  all_goals first|rfl|exact ⟨rfl,rfl⟩
 .refine ⟨⟨#[65,66,67,68,69,70,71,72,73,74,75,76,77]⟩,c3,by decide,?_⟩
  refine FI PM Tryz.func232 Tryz.ntmps232 [] rfl rfl ?_
  (have hWf:=w2 @int0 @ye;repeat' (first|refine zS ?_|refine zI ?_ ?_|refine zH B3 ?_|exact zF0|refine zD fun hb=>?_|exact zC|refine zT ?_|fail))
  all_goals first|rfl|exact ⟨rfl,rfl⟩
 .refine ⟨⟨#[57,97]⟩,c3,by decide,?_⟩
  refine FI PM Tryz.func232 Tryz.ntmps232 [] rfl rfl ?_
  (have hWf:=w2 @int0 @ye;repeat' (first|refine zS ?_|refine zI ?_ ?_|refine zH B3 ?_|exact zF0|refine zD fun hb=>?_|exact zC|refine zT ?_|fail))
  all_goals first|rfl|exact ⟨rfl,rfl⟩
 .refine ⟨⟨#[95,97]⟩,c3,by decide,?_⟩
  refine FI PM Tryz.func232 Tryz.ntmps232 [] rfl rfl ?_
  (have hWf:=w2 @int0 @ye;repeat' (first|refine zS ?_|refine zI ?_ ?_|refine zH B3 ?_|exact zF0|refine zD fun hb=>?_|exact zC|refine zT ?_|fail))
  all_goals first|rfl|exact ⟨rfl,rfl⟩
 .refine ⟨⟨#[108,101,116]⟩,c3,by decide,?_⟩
  refine FI PM Tryz.func232 Tryz.ntmps232 [] rfl rfl ?_
  (have hWf:=w2 @int0 @ye;repeat' (first|refine zS ?_|refine zI ?_ ?_|refine zH B3 ?_|exact zF0|refine zD fun hb=>?_|exact zC|refine zT ?_|fail))
  all_goals first|rfl|exact ⟨rfl,rfl⟩
 .refine ⟨⟨#[114,101,102]⟩,c3,by decide,?_⟩
  refine FI PM Tryz.func232 Tryz.ntmps232 [] rfl rfl ?_
  (have hWf:=w2 @int0 @ye;repeat' (first|refine zS ?_|refine zI ?_ ?_|refine zH B3 ?_|exact zF0|refine zD fun hb=>?_|exact zC|refine zT ?_|fail))
  all_goals first|rfl|exact ⟨rfl,rfl⟩
 .refine ⟨⟨#[116,114,117,101]⟩,c3,by decide,?_⟩
  refine FI PM Tryz.func232 Tryz.ntmps232 [] rfl rfl ?_
  (have hWf:=w2 @int0 @ye;repeat' (first|refine zS ?_|refine zI ?_ ?_|refine zH B3 ?_|exact zF0|refine zD fun hb=>?_|exact zC|refine zT ?_|fail))
  all_goals first|rfl|exact ⟨rfl,rfl⟩
 .refine ⟨⟨#[108,101,116,115]⟩,c3,by decide,?_⟩
  refine FI PM Tryz.func232 Tryz.ntmps232 [] rfl rfl ?_
  (have hWf:=w2 @int0 @ye;repeat' (first|refine zS ?_|refine zI ?_ ?_|refine zH B3 ?_|exact zF0|refine zD fun hb=>?_|exact zC|refine zT ?_|fail))
  all_goals first|rfl|exact ⟨rfl,rfl⟩
 .refine ⟨⟨#[195,169]⟩,c3,by decide,?_⟩
  refine FI PM Tryz.func232 Tryz.ntmps232 [] rfl rfl ?_
  (have hWf:=w2 @int0 @ye;repeat' (first|refine zS ?_|refine zI ?_ ?_|refine zH B3 ?_|exact zF0|refine zD fun hb=>?_|exact zC|refine zT ?_|fail))
  all_goals first|rfl|exact ⟨rfl,rfl⟩
 .refine ⟨⟨#[97,195,169]⟩,c3,by decide,?_⟩
  refine FI PM Tryz.func232 Tryz.ntmps232 [] rfl rfl ?_
  (have hWf:=w2 @int0 @ye;repeat' (first|refine zS ?_|refine zI ?_ ?_|refine zH B3 ?_|exact zF0|refine zD fun hb=>?_|exact zC|refine zT ?_|fail))
  all_goals first|rfl|exact ⟨rfl,rfl⟩
def RawE(c:Cur):Prop:=∃ (x:Int) (c':Cur),I64 x/\FT 233 [c.d] (fun r o=>r=.s (.int .i64 x)/\o=[Cur.d c'])
theorem QY(c:Cur):RawE c:=by
 obtain ⟨k,c1,k0,k1,B1⟩:=xF c (n:=11) (by omega) (by omega)
 by_cases h4:k<4
 .obtain ⟨z,c2,z0,z1,B2⟩:=xF c1 (n:=20) (by omega) (by omega)
  have e4:decide (k<4)=true:=by simpa using h4
  refine ⟨z - 4,c2,⟨by omega,by omega⟩,?_⟩
  refine FI PM Tryz.func233 Tryz.ntmps233 [] rfl rfl ?_
  (have hWf:=w1 @e4;repeat' (first|refine zS ?_|refine zI ?_ ?_|refine zH B1 ?_|refine zH B2 ?_|exact zF0|refine zD fun hb=>?_|exact zC|refine zT ?_|fail))
  all_goals rfl
 have e4:decide (k<4)=false:=by simpa using h4
 by_cases h4':k=4
 .obtain ⟨z,c2,z0,z1,B2⟩:=xF c1 (n:=3) (by omega) (by omega)
  have f4:=kT' h4';refine ⟨4611686018427387902+z,c2,⟨by omega,by omega⟩,?_⟩
  refine FI PM Tryz.func233 Tryz.ntmps233 [] rfl rfl ?_
  (have hWf:=w2 @e4 @f4;repeat' (first|refine zS ?_|refine zI ?_ ?_|refine zH B1 ?_|refine zH B2 ?_|exact zF0|refine zD fun hb=>?_|exact zC|refine zT ?_|fail))
  all_goals rfl
 have f4:=kF' h4'
 by_cases h5':k=5
 .obtain ⟨z,c2,z0,z1,B2⟩:=xF c1 (n:=3) (by omega) (by omega)
  have f5:=kT' h5';refine ⟨-4611686018427387905+z,c2,⟨by omega,by omega⟩,?_⟩
  refine FI PM Tryz.func233 Tryz.ntmps233 [] rfl rfl ?_
  (have hWf:=w3 @e4 @f4 @f5;repeat' (first|refine zS ?_|refine zI ?_ ?_|refine zH B1 ?_|refine zH B2 ?_|exact zF0|refine zD fun hb=>?_|exact zC|refine zT ?_|fail))
  all_goals rfl
 have f5:=kF' h5'
 by_cases h6':k=6
 .obtain ⟨z,c2,z0,z1,B2⟩:=xF c1 (n:=2) (by omega) (by omega)
  have f6:=kT' h6';refine ⟨9223372036854775807 - z,c2,⟨by omega,by omega⟩,?_⟩
  refine FI PM Tryz.func233 Tryz.ntmps233 [] rfl rfl ?_
  (have hWf:=w4 @e4 @f4 @f5 @f6;repeat' (first|refine zS ?_|refine zI ?_ ?_|refine zH B1 ?_|refine zH B2 ?_|exact zF0|refine zD fun hb=>?_|exact zC|refine zT ?_|fail))
  all_goals rfl
 have f6:=kF' h6'
 by_cases h7':k=7
 .obtain ⟨z,c2,z0,z1,B2⟩:=xF c1 (n:=2) (by omega) (by omega)
  have f7:=kT' h7';refine ⟨-9223372036854775807 - z,c2,⟨by omega,by omega⟩,?_⟩
  refine FI PM Tryz.func233 Tryz.ntmps233 [] rfl rfl ?_
  (have hWf:=w5 @e4 @f4 @f5 @f6 @f7;repeat' (first|refine zS ?_|refine zI ?_ ?_|refine zH B1 ?_|refine zH B2 ?_|exact zF0|refine zD fun hb=>?_|exact zC|refine zT ?_|fail))
  all_goals rfl
 have f7:=kF' h7'
 by_cases h8:k=8
 .obtain ⟨z,c2,z0,z1,B2⟩:=xF c1 (n:=63) (by omega) (by omega)
  have f8:=kT' h8;obtain ⟨z,rfl⟩:=Int.eq_ofNat_of_zero_le z0;have hp:(2:Int) ^ z<=2 ^ 62:=by exact_mod_cast Nat.pow_le_pow_right (by decide) (show z<=62 by omega)
  refine ⟨2 ^ z,c2,⟨by have:(0:Int)<=2 ^ z:=Int.pow_nonneg (by decide);omega,by have:(2:Int) ^ 62=4611686018427387904:=rfl;omega⟩,?_⟩
  refine FI PM Tryz.func233 Tryz.ntmps233 [] rfl rfl ?_
  (have hWf:=w6 @e4 @f4 @f5 @f6 @f7 @f8;repeat' (first|refine zS ?_|refine zI ?_ ?_|refine zH B1 ?_|refine zH B2 ?_|exact zF0|refine zD fun hb=>?_|exact zC|refine zT ?_|fail))
  have g0:(0:Int)<=2 ^ z:=Int.pow_nonneg (by decide)
  have g1:(2:Int) ^ 62=4611686018427387904:=rfl
  all_goals first|(rw [Int.one_mul];done)|(rw [Int.one_mul];omega)
 have f8:=kF' h8;obtain ⟨u,c2,u0,u1,B2⟩:=xF c1 (n:=65536) (by omega) (by omega)
 obtain ⟨v,c3,v0,v1,B3⟩:=xF c2 (n:=65536) (by omega) (by omega)
 obtain ⟨w,c4,w0,w1,B4⟩:=xF c3 (n:=1000) (by omega) (by omega)
 have m0:0<=u*65537*v:=Int.mul_nonneg (by omega) v0
 have m1:u*65537*v<=4294967295*65536:=Int.mul_le_mul (by omega) (by omega) v0 (by omega)
 refine ⟨u*65537*v - w,c4,⟨by omega,by omega⟩,?_⟩
 refine FI PM Tryz.func233 Tryz.ntmps233 [] rfl rfl ?_
 (have hWf:=w6 @e4 @f4 @f5 @f6 @f7 @f8;repeat' (first|refine zS ?_|refine zI ?_ ?_|refine zH B1 ?_|refine zH B2 ?_|refine zH B3 ?_|refine zH B4 ?_|exact zF0|refine zD fun hb=>?_|exact zC|refine zT ?_|fail))
 all_goals rfl
def RW(d d':D):Prop:=∀ (S:Nat->Prop) (up:Nat->Option Pos) (w:World) (p:Option Pos) (v:Value),Rep S up w p d v->Rep S up w p d' v
theorem RW.refl(d:D):RW d d:=fun _ _ _ _ _ h=>h
theorem RW.nilS(k:Nat):RW .nil (.sl k []):=fun _ _ _ _ _ h=>Rep.nil_sl k h
def Rr(row row':List D):Prop:=row'.length=row.length/\∀ (j:Nat) (d':D),row'[j]?=some d'->∃ d,row[j]?=some d/\RW d d'
theorem Rr.refl(row:List D):Rr row row:=⟨rfl,fun j d' h=>⟨d',h,RW.refl _⟩⟩
theorem Rr.cons{d d':D}{l l':List D}(h:RW d d')(hl:Rr l l'):Rr (d::l) (d'::l'):=⟨by simp [hl.1],fun j x hx=>by
 cases j with
 | zero=>simp at hx;subst hx;exact ⟨d,rfl,h⟩
 | succ j=>simp at hx;obtain ⟨y,h1,h2⟩:=hl.2 j x hx;exact ⟨y,by simpa using h1,h2⟩⟩
def RWs(rows rows':List (List D)):Prop:=rows'.length=rows.length/\∀ (i:Nat) (row':List D),rows'[i]?=some row'->∃ row,rows[i]?=some row/\Rr row row'
theorem RWs.refl(rows:List (List D)):RWs rows rows:=⟨rfl,fun i r h=>⟨r,h,Rr.refl _⟩⟩
theorem RWs.cons{r r':List D}{l l':List (List D)}(h:Rr r r')(hl:RWs l l'):RWs (r::l) (r'::l'):=⟨by simp [hl.1],fun j x hx=>by
 cases j with
 | zero=>simp at hx;subst hx;exact ⟨r,rfl,h⟩
 | succ j=>simp at hx;obtain ⟨y,h1,h2⟩:=hl.2 j x hx;exact ⟨y,by simpa using h1,h2⟩⟩
theorem RWs.app{a b b':List (List D)}(h:RWs b b'):RWs (a++b) (a++b'):=by
 induction a with
 | nil=>exact h
 | cons r a ih=>exact RWs.cons (Rr.refl r) ih
theorem RWs.set{rows:List (List D)}{i:Nat}{r r':List D}(h:Rr r r'):RWs (rows.set i r) (rows.set i r'):=⟨by rw [List.length_set,List.length_set],fun j x hx=>by
 rw [List.getElem?_set] at hx
 split at hx
 .rename_i e
  split at hx
  .rename_i hlt
   injection hx with hx;subst hx
   exact ⟨r,by rw [List.getElem?_set,if_pos e,if_pos hlt],h⟩
  .cases hx
 .rename_i e
  exact ⟨x,by rw [List.getElem?_set,if_neg e];exact hx,Rr.refl _⟩⟩
theorem RW.sl{k:Nat}{rows rows':List (List D)}(h:RWs rows rows'):RW (.sl k rows) (.sl k rows'):=fun S up w p v hv=>by
 obtain ⟨hl,hr⟩:=h;cases hv with
 | sl0 q=>obtain rfl:=List.length_eq_zero_iff.1 hl;exact .sl0 q
 | sl us q1 q2 q3 q4 q5=>
  rw [<- hl] at q1 ⊢
  refine .sl us q1 q2 (fun i row' hi=>?_) (fun i j row' d' hi hj=>?_) (fun i j row' d' hi hj=>?_)
  .obtain ⟨row,h1,h2,-⟩:=hr i row' hi;rw [h2];exact q3 i row h1
  .obtain ⟨row,h1,-,h3⟩:=hr i row' hi;obtain ⟨d,h4,-⟩:=h3 j d' hj;exact q4 i j row d h1 h4
  .obtain ⟨row,h1,-,h3⟩:=hr i row' hi;obtain ⟨d,h4,h5⟩:=h3 j d' hj;exact h5 _ _ _ _ _ (q5 i j row d h1 h4)
theorem RW.osl{e k:Nat}{rows rows':List (List D)}(h:RWs rows rows'):RW (.osl e k rows) (.osl e k rows'):=fun S up w p v hv=>by
 obtain ⟨hl,hr⟩:=h;cases hv with
 | osl0=>obtain rfl:=List.length_eq_zero_iff.1 hl;exact .osl0
 | osl cs q1 q2 q3 q4 q5 q6 q7=>
  rw [<- hl] at q3 ⊢
  refine .osl cs q1 q2 q3 q4 q5 (fun i row' hi=>?_) (fun i j row' d' hi hj=>?_)
  .obtain ⟨row,h1,h2,-⟩:=hr i row' hi;rw [h2];exact q6 i row h1
  .obtain ⟨row,h1,-,h3⟩:=hr i row' hi;obtain ⟨d,h4,h5⟩:=h3 j d' hj;exact h5 _ _ _ _ _ (q7 i j row d h1 h4)
def RA'(r r':D):Prop:=∀ (g:Gh) (w:World) (v:Value),RNs g w r v->RNs g w r' v
theorem RA'.refl(r:D):RA' r r:=fun _ _ _ h=>h
theorem RA'.ag{xs ys:List D}(h:Rr xs ys):RA' (.ag xs) (.ag ys):=fun g w v q=>by
 obtain ⟨us,rfl,h1,h2⟩:=q;refine ⟨us,rfl,by rw [h.1];exact h1,fun l y u hy hu=>?_⟩
 obtain ⟨x,e1,e2⟩:=h.2 l y hy;exact e2 _ _ _ _ _ (h2 l x u e1 hu)
theorem FCon.wa{P:Program}{f:FuncId}{args:List D}{R:D->Prop}{Q:List D->Prop}(h:FCon P f args (fun r o=>(∃ r',R r'/\RA' r r')/\Q o)):FCon P f args (fun r o=>R r/\Q o):=h.wk fun r o ⟨⟨r',h1,h2⟩,h3⟩=>⟨r',⟨h1,h3⟩,h2⟩
def uk(r:D):Prop:=∃ (p:MProgram) (rT rN:List (List D)),r=.ag [.osl 63 3 rT,.osl 55 6 rN]/\xU rT=p.types.map MType.enc/\xU rN=p.nodes.map MNode.enc/\p.ok/\p.sm/\pvs p<=1101
theorem GoodR.x{r:D}(h:GoodR r):uk r:=by
 obtain ⟨p,rfl,h⟩:=h;exact ⟨p,_,_,by rw [MProgram.own_eq],MType.frzS _,MNode.frzS _,h.good.ok,h.good.sm,by have:=h.pv;omega⟩
theorem c_l03Q(c:Cur):FT 174 [c.d] (fun r o=>(∃ p:MProgram,r=.ag [.osl 63 3 (p.types.map MType.own),.osl 55 6 (p.nodes.map MNode.own)]/\GoodQ p)/\∃ c',o=[Cur.d c']):=(Q2 c).mono fun r o h=>by
 obtain ⟨⟨p,rfl,hp⟩,h2⟩:=h;exact ⟨⟨p,by rw [MProgram.own_eq],hp⟩,h2⟩
theorem frz_set(rows:List (List D))(i:Nat)(r:List D):xU (rows.set i r)=(xU rows).set i (frzL r):=by
 rw [za,za,List.map_set]
theorem xaK{α:Type}(f:α->Nat):∀ (l:List α) (i:Nat) (h:i<l.length) (y:α),sumN f (l.set i y)+f l[i]=sumN f l+f y
 | x::l,0,h,y=>by show f y+sumN f l+f x=f x+sumN f l+f y;omega
 | x::l,i+1,h,y=>by
  have:=xaK f l i (by simpa using h) y
  have h':i<l.length:=by simpa using h
  show f x+sumN f (l.set i y)+f l[i]=f x+sumN f l+f y;omega
section
variable {p:MProgram} (hQ:GoodQ p)
include hQ
theorem yL{i:Nat}(hi:i<p.nodes.length){n':MNode}{row junk:List D}(hrow:frzL row=n'.enc)(hok:n'.ok)(hsm:n'.sm)(hpv:pvN n'<=pvN p.nodes[i]+1):uk (.ag [.osl 63 3 (p.types.map MType.own),.osl 55 6 (List.take p.nodes.length (((p.nodes.map MNode.own).set i junk).set i row))]):=by
 rw [List.take_of_length_le (by rw [List.length_set,List.length_set,List.length_map];exact Nat.le_refl _)]
 have hg:=hQ.good;refine ⟨⟨p.types,p.nodes.set i n'⟩,_,_,rfl,MType.frzS _,?_,⟨hg.ok.1,fun n hn=>?_⟩,⟨hg.sm.1,?_,fun n hn=>?_⟩,?_⟩
 .rw [List.set_set,frz_set,MNode.frzS,hrow,<- List.map_set]
 .rcases List.mem_or_eq_of_mem_set hn with h|rfl
  .exact hg.ok.2 n h
  .exact hok
 .show (p.nodes.set i n').length<=_
  rw [List.length_set];exact hg.sm.2.1
 .rcases List.mem_or_eq_of_mem_set hn with h|rfl
  .exact hg.sm.2.2 n h
  .exact hsm
 .have h1:=xaK pvN p.nodes i hi n'
  have h2:=hQ.pv;unfold pvs at *
  show sumN pvN (p.nodes.set i n')<=_;omega
theorem Y8{t t':MType}{ts:List MType}(ht:p.types=t::ts){rT rN:List (List D)}(hT:xU rT=(t'::ts).map MType.enc)(hN:xU rN=p.nodes.map MNode.enc)(hok:t'.ok)(hsm:t'.sm):uk (.ag [.osl 63 3 rT,.osl 55 6 rN]):=by
 have hg:=hQ.good;have h1:=hg.ok.1;have h2:=hg.sm.1;rw [ht] at h1 h2
 refine ⟨⟨t'::ts,p.nodes⟩,_,_,rfl,hT,hN,⟨fun x hx=>?_,hg.ok.2⟩,⟨⟨h2.1,fun x hx=>?_⟩,hg.sm.2⟩,by have:=hQ.pv;show sumN pvN p.nodes<=_;unfold pvs at this;omega⟩
 .rcases List.mem_cons.1 hx with rfl|hx
  .exact hok
  .exact h1 x (List.mem_cons_of_mem _ hx)
 .rcases List.mem_cons.1 hx with rfl|hx
  .exact hsm
  .exact h2.2 x (List.mem_cons_of_mem _ hx)
end
theorem GoodQ.x{p:MProgram}(h:GoodQ p):uk (.ag [.osl 63 3 (p.types.map MType.own),.osl 55 6 (p.nodes.map MNode.own)]):=by
 have:=GoodR.x ⟨p,rfl,h⟩;rw [MProgram.own_eq] at this
 exact this
theorem c_l04Any0(c:Cur):FT 175 [c.d] (fun r o=>(∃ r',uk r'/\RA' r r')/\∃ c',o=[Cur.d c']):=by
 refine FI PM Tryz.func175 Tryz.ntmps175 [(15,5,[3],[(3,0),(3,1)],(lin [3] [0,1,2,3,4])),(21,8,[3],[(3,0),(3,1)],(lin [3] [0,1,2,3,4,5,6,7])),(24,5,[3],[(3,0),(3,1)],(lin [3] [0,1,2,3,4])),(26,7,[6],[(6,0),(6,1),(6,2),(6,3),(6,4)],(lin [6] [0,1,2,3,4,5,6])),(28,14,[],[],(lin [] [0,1,2,3,4,5,6,7,8,9,10,11,12,13]))] rfl rfl ?_
 iterate 2 (refine xE ?_;simp only [go_sem,simprocAttr];(have hWf:=f0;repeat' (first|refine zY ?_|refine zI ?_ ?_|((with_reducible apply xc);refine xu (c_l03Q c) ?_;rintro _ _ ⟨⟨p,rfl,hQ⟩,c1,rfl⟩)|refine zU (c_l03Q c) ?_|exact zF1|refine zD fun hb=>?_|exact zC|refine zT ?_|fail)))
 obtain ⟨k,c2,k0,k1,B2⟩:=xF c1 (n:=24) (by omega) (by omega)
 (refine xE ?_;simp only [go_sem,simprocAttr];(have hWf:=f0;repeat' (first|refine zY ?_|refine zI ?_ ?_|refine zH B2 ?_|exact zF1|refine zD fun hb=>?_|exact zC|refine zT ?_|fail)))
 by_cases hn:p.nodes.length=0
 .have f0:((p.nodes.length:Int)==0)=true:=by simp [hn]
  (have hWf:=w1 @f0;repeat' (first|refine zS ?_|refine zI ?_ ?_|exact zF0|refine zD fun hb=>?_|exact zC|refine zT ?_|fail))
  all_goals first|exact ⟨_,hQ.x,RA'.refl _⟩|exact ⟨c2,rfl⟩
 have f0:((p.nodes.length:Int)==0)=false:=by simpa using hn
 obtain ⟨i,c3,i0,i1,B3⟩:=xF c2 (n:=(p.nodes.length:Int)) (by omega) (by have:=hQ.good.few;omega)
 obtain ⟨i,rfl⟩:=Int.eq_ofNat_of_zero_le i0;have hi:i<p.nodes.length:=by omega
 iterate 4 (refine xE ?_;simp only [go_sem,simprocAttr,f0];(have hWf:=w1 @f0;repeat' (first|refine zY ?_|refine zI ?_ ?_|refine zH B3 ?_|exact zF1|refine zD fun hb=>?_|exact zC|refine zT ?_|fail)))
 obtain ⟨n,hnn⟩:∃ n,n=p.nodes[i]:=⟨_,rfl⟩;have hmem:n∈p.nodes:=by rw [hnn];exact List.getElem_mem hi
 have hkl:=(hQ.few n hmem).1;have hpl:=(hQ.few n hmem).2;have hown:=MNode.own_eq n;have hrow:(p.nodes.map MNode.own)[i]?=some [.s (.int .i64 n.kind),.s (.int .i64 n.at_),.s (.int .i64 n.n),.s (.string n.s),.osl 3 1 (n.kids.map iE),.osl 89 1 (n.pats.map MPat.own)]:=by
  rw [List.getElem?_map,List.getElem?_eq_getElem hi,Option.map_some,<- hnn,hown]
 refine WW 2008 i (e:=55) (k:=6) (rows:=p.nodes.map MNode.own) (by simp only [go_sem,simprocAttr]) hrow (Xp 2008 4 777 (e:=55) (k:=6) (i:=i) (rows:=p.nodes.map MNode.own) (rr:=[.s (.int .i64 n.kind),.s (.int .i64 n.at_),.s (.int .i64 n.n),.s (.string n.s),.osl 3 1 (n.kids.map iE),.osl 89 1 (n.pats.map MPat.own)]) (d:=.osl 3 1 (n.kids.map iE)) (o:=.arr 3 1 (n.kids.map iE)) (by simp only [go_sem,simprocAttr]) rfl rfl (by decide) rfl (Xp 2008 5 778 (e:=55) (k:=6) (i:=i) (rows:=p.nodes.map MNode.own) (rr:=[.s (.int .i64 n.kind),.s (.int .i64 n.at_),.s (.int .i64 n.n),.s (.string n.s),.bs 777 1 n.kids.length,.osl 89 1 (n.pats.map MPat.own)]) (d:=.osl 89 1 (n.pats.map MPat.own)) (o:=.arr 89 1 (n.pats.map MPat.own)) (by simp only [go_sem,simprocAttr]) rfl rfl (by decide) rfl ?_))
 (refine xE ?_;simp only [go_sem,simprocAttr];(have hWf:=f0;repeat' (first|refine zY ?_|refine zI ?_ ?_|exact zF1|refine zD fun hb=>?_|exact zC|refine zT ?_|fail)))
 refine VM 2008 (e:=55) (k:=6) (i:=i) (rows:=p.nodes.map MNode.own) (rr:=[.s (.int .i64 n.kind),.s (.int .i64 n.at_),.s (.int .i64 n.n),.s (.string n.s),.bs 777 1 n.kids.length,.bs 778 1 n.pats.length]) (by simp only [go_sem,simprocAttr]) fun us=>?_
 obtain ⟨v4,v5,hopq⟩:∃ v4 v5:Value,opqR us [.s (.int .i64 n.kind),.s (.int .i64 n.at_),.s (.int .i64 n.n),.s (.string n.s),.bs 777 1 n.kids.length,.bs 778 1 n.pats.length]=[.s (.int .i64 n.kind),.s (.int .i64 n.at_),.s (.int .i64 n.n),.s (.string n.s),.s v4,.s v5]:=⟨_,_,rfl⟩;rw [hopq];have hln:((p.nodes.map MNode.own).set i [.s (.int .i64 n.kind),.s (.int .i64 n.at_),.s (.int .i64 n.n),.s (.string n.s),.s v4,.s v5]).length=p.nodes.length:=by rw [List.length_set,List.length_map]
 have hgd:((p.nodes.map MNode.own).set i [.s (.int .i64 n.kind),.s (.int .i64 n.at_),.s (.int .i64 n.n),.s (.string n.s),.s v4,.s v5]).getD i []=[.s (.int .i64 n.kind),.s (.int .i64 n.at_),.s (.int .i64 n.n),.s (.string n.s),.s v4,.s v5]:=by
  rw [List.getD_eq_getElem?_getD,List.getElem?_set_self (by rw [List.length_map];exact hi)];rfl
 (refine xE ?_;simp only [go_sem,simprocAttr];(have hWf:=f0;repeat' (first|refine zY ?_|refine zI ?_ ?_|exact zF1|refine zD fun hb=>?_|exact zC|refine zT ?_|fail)))
 have hNo:=hQ.good.ok.2 n hmem;have hNs:=hQ.good.sm.2.2 n hmem;have hpv0:pvN p.nodes[i]=pvN n:=by rw [<- hnn]
 obtain ⟨n1,n2,n3,n4,n5,n6⟩:=hNo;obtain ⟨m1,m2,m3⟩:=hNs;have hfr:∀ (kd at_ nn:Int) (s:ByteArray),frzL [.s (.int .i64 kd),.s (.int .i64 at_),.s (.int .i64 nn),.s (.string s),.osl 3 1 (n.kids.map iE),.osl 89 1 (n.pats.map MPat.own)]=(MNode.mk kd at_ nn s n.kids n.pats).enc:=fun kd at_ nn s=>MNode.frz_eq ⟨kd,at_,nn,s,n.kids,n.pats⟩
 have hsame:xU (List.take p.nodes.length (((p.nodes.map MNode.own).set i [.s (.int .i64 n.kind),.s (.int .i64 n.at_),.s (.int .i64 n.n),.s (.string n.s),.s v4,.s v5]).set i [.s (.int .i64 n.kind),.s (.int .i64 n.at_),.s (.int .i64 n.n),.s (.string n.s),.osl 3 1 (n.kids.map iE),.osl 89 1 (n.pats.map MPat.own)]))=p.nodes.map MNode.enc:=by
  rw [List.take_of_length_le (by rw [List.length_set,List.length_set,List.length_map];exact Nat.le_refl _),List.set_set,<- hown,hnn,<- List.map_set,List.set_getElem_self,MNode.frzS]
 have hks:k=0\/k=1\/k=2\/k=3\/k=4\/k=5\/k=6\/k=7\/k=8\/k=9\/9<k:=by omega
 rcases hks with rfl|rfl|rfl|rfl|rfl|rfl|rfl|rfl|rfl|rfl|hk9
 .obtain ⟨x,c4,x0,x1,B4⟩:=xF c3 (n:=22) (by omega) (by omega)
  (have hWf:=w2 @hln @hgd;repeat' (first|refine zS ?_|refine zI ?_ ?_|refine zH B4 ?_|exact zF0|refine zD fun hb=>?_|exact zC|refine zT ?_|fail))
  all_goals first|exact ⟨c4,rfl⟩|(rw [List.length_set,List.length_set,List.length_map];first|done|exact Nat.le_refl _)|(refine ⟨_,yL hQ hi (hfr (x - 1) _ _ _) ⟨(⟨by omega,by omega⟩:I64 (x - 1)),n2,n3,n4,n5,n6⟩ ⟨m1,m2,m3⟩ (by rw [hpv0];exact Nat.le_succ _),RA'.refl _⟩)
 .obtain ⟨s,c4,hs,B4⟩:=VU c3
  (have hWf:=w2 @hln @hgd;repeat' (first|refine zS ?_|refine zI ?_ ?_|refine zH B4 ?_|exact zF0|refine zD fun hb=>?_|exact zC|refine zT ?_|fail))
  all_goals first|exact ⟨c4,rfl⟩|(rw [List.length_set,List.length_set,List.length_map];first|done|exact Nat.le_refl _)|(refine ⟨_,yL hQ hi (hfr _ _ _ s) ⟨n1,n2,n3,by show s.size<=maxLen;unfold maxLen;omega,n5,n6⟩ ⟨by show s.size<=_;omega,m2,m3⟩ (by rw [hpv0];exact Nat.le_succ _),RA'.refl _⟩)
 .obtain ⟨x,c4,hx,B4⟩:=QY c3
  (have hWf:=w2 @hln @hgd;repeat' (first|refine zS ?_|refine zI ?_ ?_|refine zH B4 ?_|exact zF0|refine zD fun hb=>?_|exact zC|refine zT ?_|fail))
  all_goals first|exact ⟨c4,rfl⟩|(rw [List.length_set,List.length_set,List.length_map];first|done|exact Nat.le_refl _)|(refine ⟨_,yL hQ hi (hfr _ _ x _) ⟨n1,n2,hx,n4,n5,n6⟩ ⟨m1,m2,m3⟩ (by rw [hpv0];exact Nat.le_succ _),RA'.refl _⟩)
 .obtain ⟨x,c4,hx,B4⟩:=QY c3
  (have hWf:=w2 @hln @hgd;repeat' (first|refine zS ?_|refine zI ?_ ?_|refine zX B4 ?_|((with_reducible apply xc);refine xu (B4) ?_;rintro _ _ ⟨rfl,rfl⟩)|exact zF0|refine zD fun hb=>?_|exact zC|refine zT ?_|fail))
  all_goals first|exact ⟨c4,rfl⟩|(rw [List.length_set,List.length_set,List.length_map];first|done|exact Nat.le_refl _)|skip
  have e3:=MNode.frz_eq ⟨n.kind,n.at_,n.n,n.s,n.kids++[x],n.pats⟩;rw [MNode.own_eq,List.map_append] at e3
  refine ⟨_,yL hQ hi e3 ⟨n1,n2,n3,n4,fun y hy=>by
   rcases List.mem_append.1 hy with hy|hy
   .exact n5 y hy
   .rw [List.mem_singleton.1 hy];exact hx,n6⟩ ⟨m1,⟨by show (n.kids++[x]).length<=_;rw [List.length_append];simp only [List.length_singleton];omega,fun _ _=>trivial⟩,m3⟩ (by rw [hpv0];exact Nat.le_succ _),RA'.refl _⟩
 .by_cases hk0:n.kids.length=0
  .have f4:decide ((n.kids.length:Int)>0)=false:=by simp [hk0]
   (have hWf:=w3 @hln @hgd @f4;repeat' (first|refine zS ?_|refine zI ?_ ?_|exact zF0|refine zD fun hb=>?_|exact zC|refine zT ?_|fail))
   all_goals first|exact ⟨c3,rfl⟩|(rw [List.length_set,List.length_set,List.length_map];first|done|exact Nat.le_refl _)|(refine ⟨_,yL hQ hi (hfr _ _ _ _) ⟨n1,n2,n3,n4,n5,n6⟩ ⟨m1,m2,m3⟩ (by rw [hpv0];exact Nat.le_succ _),RA'.refl _⟩)
  .have f4:decide ((n.kids.length:Int)>0)=true:=by simp;omega
   refine z8 26 (.arr 3 1 (n.kids.map iE)) (by simp only [go_sem,simprocAttr]) rfl ?_
   (have hWf:=w3 @hln @hgd @f4;repeat' (first|refine zS ?_|refine zI ?_ ?_|exact zF0|refine zD fun hb=>?_|exact zC|refine zT ?_|fail))
   all_goals first|exact ⟨c3,rfl⟩|(rw [List.length_set,List.length_set,List.length_map];first|done|exact Nat.le_refl _)|skip
   have e4:frzL [.s (.int .i64 n.kind),.s (.int .i64 n.at_),.s (.int .i64 n.n),.s (.string n.s),.sl 1 (List.drop 1 (n.kids.map iE)),.osl 89 1 (n.pats.map MPat.own)]=(MNode.mk n.kind n.at_ n.n n.s (n.kids.drop 1) n.pats).enc:=by
    rw [MNode.enc_eq,List.map_drop];simp only [frzL,frz,yh MPat.frz_eq]
   refine ⟨_,yL hQ hi e4 ⟨n1,n2,n3,n4,fun y hy=>n5 y (List.mem_of_mem_drop hy),n6⟩ ⟨m1,⟨by show (n.kids.drop 1).length<=_;rw [List.length_drop];omega,fun _ _=>trivial⟩,m3⟩ (by rw [hpv0];exact Nat.le_succ _),RA'.refl _⟩
 ·(have hWf:=w2 @hln @hgd;repeat' (first|refine zS ?_|refine zI ?_ ?_|exact zF0|refine zD fun hb=>?_|exact zC|refine zT ?_|fail))
  all_goals first|exact ⟨c3,rfl⟩|(rw [List.length_set,List.length_set,List.length_map];first|done|exact Nat.le_refl _)|(refine ⟨_,yL hQ hi (hfr _ (-1) _ _) ⟨n1,(⟨by omega,by omega⟩:I64 (-1)),n3,n4,n5,n6⟩ ⟨m1,m2,m3⟩ (by rw [hpv0];exact Nat.le_succ _),RA'.refl _⟩)
 .obtain ⟨x,c4,x0,x1,B4⟩:=xF c3 (n:=8) (by omega) (by omega)
  (have hWf:=w2 @hln @hgd;repeat' (first|refine zS ?_|refine zI ?_ ?_|refine zX B4 ?_|((with_reducible apply xc);refine xu (B4) ?_;rintro _ _ ⟨rfl,rfl⟩)|exact zF0|refine zD fun hb=>?_|exact zC|refine zT ?_|fail))
  all_goals first|exact ⟨c4,rfl⟩|(rw [List.length_set,List.length_set,List.length_map];first|done|exact Nat.le_refl _)|skip
  rw [List.take_of_length_le (by rw [List.length_set,List.length_set,List.length_map];exact Nat.le_refl _)]
  have e6:frzL [.s (.int .i64 n.kind),.s (.int .i64 n.at_),.s (.int .i64 n.n),.s (.string n.s),.osl 3 1 (n.kids.map iE),.osl 89 1 (n.pats.map MPat.own++[[.sl 4 [[.s (.int .i64 x),.s (.int .i64 0),.s (.string ⟨#[120]⟩),.sl 1 []]]]])]=(MNode.mk n.kind n.at_ n.n n.s n.kids (n.pats++[⟨[⟨x,0,⟨#[120]⟩,[]⟩]⟩])).enc:=by
   rw [MNode.enc_eq,List.map_append];simp only [frzL,frz,Qa,yh MPat.frz_eq,yh U4];rfl
  have hq6:=yL hQ hi (junk:=[.s (.int .i64 n.kind),.s (.int .i64 n.at_),.s (.int .i64 n.n),.s (.string n.s),.s v4,.s v5]) e6 ⟨n1,n2,n3,n4,n5,fun q hq=>by
   rcases List.mem_append.1 hq with hq|hq
   .exact n6 q hq
   .rw [List.mem_singleton.1 hq]
    intro y hy;rw [List.mem_singleton.1 hy];exact ⟨(⟨by omega,by omega⟩:I64 x),(⟨by omega,by omega⟩:I64 0),(by decide:(⟨#[120]⟩:ByteArray).size<=maxLen),fun z hz=>by cases hz⟩⟩ ⟨m1,m2,by show (n.pats++_).length<=_;rw [List.length_append];simp only [List.length_singleton];omega,fun q hq=>by
   rcases List.mem_append.1 hq with hq|hq
   .exact m3.2 q hq
   .rw [List.mem_singleton.1 hq]
    exact ⟨by show 1<=_;omega,fun y hy=>by
     rw [List.mem_singleton.1 hy];exact ⟨(by decide:(⟨#[120]⟩:ByteArray).size<=1048576),by show 0<=_;omega,fun _ _=>trivial⟩⟩⟩ (by
   rw [hpv0];exact pvN_app1 _ _ _ _ _ _ _)
  rw [List.take_of_length_le (by rw [List.length_set,List.length_set,List.length_map];exact Nat.le_refl _)] at hq6
  exact ⟨_,hq6,RA'.ag (Rr.cons (RW.refl _) (Rr.cons (RW.osl (RWs.set (Rr.cons (RW.refl _) (Rr.cons (RW.refl _) (Rr.cons (RW.refl _) (Rr.cons (RW.refl _) (Rr.cons (RW.refl _) (Rr.cons (RW.osl (RWs.app (RWs.cons (Rr.cons (RW.sl (RWs.cons (Rr.cons (RW.refl _) (Rr.cons (RW.refl _) (Rr.cons (RW.refl _) (Rr.cons (RW.nilS 1) (Rr.refl _))))) (RWs.refl _))) (Rr.refl _)) (RWs.refl _)))) (Rr.refl _))))))))) (Rr.refl _)))⟩
 .cases hty:p.types with
  | nil=>
   have f7:decide ((p.types.length:Int)>0)=false:=by rw [hty];rfl
   rw [<- hty]
   (have hWf:=w3 @hln @hgd @f7;repeat' (first|refine zS ?_|refine zI ?_ ?_|exact zF0|refine zD fun hb=>?_|exact zC|refine zT ?_|fail))
   all_goals first|exact ⟨c3,rfl⟩|(rw [List.length_set,List.length_set,List.length_map];first|done|exact Nat.le_refl _)|(refine ⟨_,yL hQ hi (hfr _ _ _ _) ⟨n1,n2,n3,n4,n5,n6⟩ ⟨m1,m2,m3⟩ (by rw [hpv0];exact Nat.le_succ _),RA'.refl _⟩)
  | cons ty ts=>
   have f7:decide ((p.types.length:Int)>0)=true:=by rw [hty];simp
   obtain ⟨x,c4,x0,x1,B4⟩:=xF c3 (n:=5) (by omega) (by omega)
   have hto:=MType.own_eq ty
   (have hWf:=w4 @hln @hgd @f7 @hto;repeat' (first|refine zS ?_|refine zI ?_ ?_|refine zX B4 ?_|((with_reducible apply xc);refine xu (B4) ?_;rintro _ _ ⟨rfl,rfl⟩)|exact zF0|refine zD fun hb=>?_|exact zC|refine zT ?_|fail))
   all_goals first|exact ⟨c4,rfl⟩|(rw [List.length_set,List.length_set,List.length_map];first|done|exact Nat.le_refl _)|skip
   obtain ⟨t1,t2,t3⟩:=hQ.good.ok.1 ty (by rw [hty];exact List.mem_cons_self ..)
   have s1:=hQ.good.sm.1.2 ty (by rw [hty];exact List.mem_cons_self ..)
   have e7:=MType.frz_eq ⟨ty.name,x - 1,ty.cons⟩;rw [MType.own_eq] at e7
   exact ⟨_,Y8 hQ hty (t':=⟨ty.name,x - 1,ty.cons⟩) (by rw [XJ,MType.frzS,List.map_cons];exact congrArg (· :: _) e7) hsame ⟨t1,(⟨by omega,by omega⟩:I64 (x - 1)),t3⟩ s1,RA'.refl _⟩
 .cases hty:p.types with
  | nil=>
   have f7:decide ((p.types.length:Int)>0)=false:=by rw [hty];rfl
   rw [<- hty]
   (have hWf:=w3 @hln @hgd @f7;repeat' (first|refine zS ?_|refine zI ?_ ?_|exact zF0|refine zD fun hb=>?_|exact zC|refine zT ?_|fail))
   all_goals first|exact ⟨c3,rfl⟩|(rw [List.length_set,List.length_set,List.length_map];first|done|exact Nat.le_refl _)|(refine ⟨_,yL hQ hi (hfr _ _ _ _) ⟨n1,n2,n3,n4,n5,n6⟩ ⟨m1,m2,m3⟩ (by rw [hpv0];exact Nat.le_succ _),RA'.refl _⟩)
  | cons ty ts=>
   have f7:decide ((p.types.length:Int)>0)=true:=by rw [hty];simp
   have hto:=MType.own_eq ty;obtain ⟨t1,t2,t3⟩:=hQ.good.ok.1 ty (by rw [hty];exact List.mem_cons_self ..)
   obtain ⟨s1,s2,s3⟩:=hQ.good.sm.1.2 ty (by rw [hty];exact List.mem_cons_self ..)
   have hc1:=hQ.good.con ty (by rw [hty];exact List.mem_cons_self ..)
   obtain ⟨nm,pr,cons⟩:=ty;obtain ⟨c0,cs,rfl⟩:∃ c0 cs,cons=c0::cs:=by
    cases cons with
    | nil=>simp at hc1
    | cons a b=>exact ⟨a,b,rfl⟩
   have hco:=MCon.own_eq c0;obtain ⟨u1,-,u3⟩:=t3 c0 (List.mem_cons_self ..);obtain ⟨w1,w2⟩:=s3 c0 (List.mem_cons_self ..);obtain ⟨s,c4,hs,B4⟩:=VU c3;refine AC_open 1008 0 2 888 (e:=63) (k:=3) (rows:=(MType.mk nm pr (c0::cs)).own::ts.map MType.own) (row:=[.s (.string nm),.s (.int .i64 pr),.osl 68 3 (c0.own::cs.map MCon.own)]) (d:=.osl 68 3 (c0.own::cs.map MCon.own)) (o:=.arr 68 3 (c0.own::cs.map MCon.own)) (by simp only [go_sem,simprocAttr]) (by rw [hto];rfl) rfl rfl (by decide) rfl ?_
   iterate 31 (refine xE ?_;simp only [go_sem,simprocAttr,hln,hgd,f7,hto,hco];(have hWf:=w5 @hln @hgd @f7 @hto @hco;repeat' (first|refine zY ?_|refine zI ?_ ?_|refine zX B4 ?_|((with_reducible apply xc);refine xu (B4) ?_;rintro _ _ ⟨rfl,rfl⟩)|exact zF1|refine zD fun hb=>?_|exact zC|refine zT ?_|fail)))
   refine QG 1008 888 (e:=63) (k:=3) (i:=0) (j:=2) (rows:=(MType.mk nm pr (c0::cs)).own::ts.map MType.own) (r:=.bs 888 3 (cs.length+1)) (d:=.osl 68 3 ([.s (.string s),.s (.bool c0.has),.osl 159 3 (c0.arg.map TyI.own)]::cs.map MCon.own)) (ob:=3=3/\cs.length+1<=([.s (.string s),.s (.bool c0.has),.osl 159 3 (c0.arg.map TyI.own)]::cs.map MCon.own).length) (by simp only [go_sem,simprocAttr,hto,hco]) (by simp only [go_sem,simprocAttr,hto,hco]) ⟨rfl,by simp⟩ rfl (by decide) ?_
   (have hWf:=w5 @hln @hgd @f7 @hto @hco;repeat' (first|refine zS ?_|refine zI ?_ ?_|exact zF0|refine zD fun hb=>?_|exact zC|refine zT ?_|fail))
   all_goals first|exact ⟨c4,rfl⟩|(rw [List.length_set,List.length_set,List.length_map];first|done|exact Nat.le_refl _)|skip
   have e8:=MType.frz_eq ⟨nm,pr,⟨s,c0.has,c0.arg⟩::cs⟩;rw [MType.own_eq,List.map_cons,MCon.own_eq] at e8
   exact ⟨_,Y8 hQ hty (t':=⟨nm,pr,⟨s,c0.has,c0.arg⟩::cs⟩) (by rw [XJ,MType.frzS,List.map_cons];exact congrArg (· :: _) e8) hsame ⟨t1,t2,fun y hy=>by
    rcases List.mem_cons.1 hy with rfl|hy
    .exact ⟨by show s.size<=maxLen;unfold maxLen;omega,trivial,u3⟩
    .exact t3 y (List.mem_cons_of_mem _ hy)⟩ ⟨s1,s2,fun y hy=>by
    rcases List.mem_cons.1 hy with rfl|hy
    .exact ⟨by show s.size<=_;omega,w2⟩
    .exact s3 y (List.mem_cons_of_mem _ hy)⟩,RA'.refl _⟩
 .cases hty:p.types with
  | nil=>
   have f7:decide ((p.types.length:Int)>0)=false:=by rw [hty];rfl
   rw [<- hty]
   (have hWf:=w3 @hln @hgd @f7;repeat' (first|refine zS ?_|refine zI ?_ ?_|exact zF0|refine zD fun hb=>?_|exact zC|refine zT ?_|fail))
   all_goals first|exact ⟨c3,rfl⟩|(rw [List.length_set,List.length_set,List.length_map];first|done|exact Nat.le_refl _)|(refine ⟨_,yL hQ hi (hfr _ _ _ _) ⟨n1,n2,n3,n4,n5,n6⟩ ⟨m1,m2,m3⟩ (by rw [hpv0];exact Nat.le_succ _),RA'.refl _⟩)
  | cons ty ts=>
   have f7:decide ((p.types.length:Int)>0)=true:=by rw [hty];simp
   have hto:=MType.own_eq ty;obtain ⟨t1,t2,t3⟩:=hQ.good.ok.1 ty (by rw [hty];exact List.mem_cons_self ..)
   obtain ⟨s1,s2,s3⟩:=hQ.good.sm.1.2 ty (by rw [hty];exact List.mem_cons_self ..)
   have hc1:=hQ.good.con ty (by rw [hty];exact List.mem_cons_self ..)
   obtain ⟨nm,pr,cons⟩:=ty;obtain ⟨c0,cs,rfl⟩:∃ c0 cs,cons=c0::cs:=by
    cases cons with
    | nil=>simp at hc1
    | cons a b=>exact ⟨a,b,rfl⟩
   have hco:=MCon.own_eq c0;obtain ⟨u1,-,u3⟩:=t3 c0 (List.mem_cons_self ..);obtain ⟨w1,w2⟩:=s3 c0 (List.mem_cons_self ..);refine AC_open 1008 0 2 888 (e:=63) (k:=3) (rows:=(MType.mk nm pr (c0::cs)).own::ts.map MType.own) (row:=[.s (.string nm),.s (.int .i64 pr),.osl 68 3 (c0.own::cs.map MCon.own)]) (d:=.osl 68 3 (c0.own::cs.map MCon.own)) (o:=.arr 68 3 (c0.own::cs.map MCon.own)) (by simp only [go_sem,simprocAttr]) (by rw [hto];rfl) rfl rfl (by decide) rfl ?_
   iterate 31 (refine xE ?_;simp only [go_sem,simprocAttr,hln,hgd,f7,hto,hco];(have hWf:=w5 @hln @hgd @f7 @hto @hco;repeat' (first|refine zY ?_|refine zI ?_ ?_|exact zF1|refine zD fun hb=>?_|exact zC|refine zT ?_|fail)))
   refine QG 1008 888 (e:=63) (k:=3) (i:=0) (j:=2) (rows:=(MType.mk nm pr (c0::cs)).own::ts.map MType.own) (r:=.bs 888 3 (cs.length+1)) (d:=.osl 68 3 ([.s (.string c0.name),.s (.bool (!c0.has)),.osl 159 3 (c0.arg.map TyI.own)]::cs.map MCon.own)) (ob:=3=3/\cs.length+1<=([.s (.string c0.name),.s (.bool (!c0.has)),.osl 159 3 (c0.arg.map TyI.own)]::cs.map MCon.own).length) (by simp only [go_sem,simprocAttr,hto,hco]) (by simp only [go_sem,simprocAttr,hto,hco]) ⟨rfl,by simp⟩ rfl (by decide) ?_
   (have hWf:=w5 @hln @hgd @f7 @hto @hco;repeat' (first|refine zS ?_|refine zI ?_ ?_|exact zF0|refine zD fun hb=>?_|exact zC|refine zT ?_|fail))
   all_goals first|exact ⟨c3,rfl⟩|(rw [List.length_set,List.length_set,List.length_map];first|done|exact Nat.le_refl _)|skip
   have e8:=MType.frz_eq ⟨nm,pr,⟨c0.name,!c0.has,c0.arg⟩::cs⟩;rw [MType.own_eq,List.map_cons,MCon.own_eq] at e8
   exact ⟨_,Y8 hQ hty (t':=⟨nm,pr,⟨c0.name,!c0.has,c0.arg⟩::cs⟩) (by rw [XJ,MType.frzS,List.map_cons];exact congrArg (· :: _) e8) hsame ⟨t1,t2,fun y hy=>by
    rcases List.mem_cons.1 hy with rfl|hy
    .exact ⟨u1,trivial,u3⟩
    .exact t3 y (List.mem_cons_of_mem _ hy)⟩ ⟨s1,s2,fun y hy=>by
    rcases List.mem_cons.1 hy with rfl|hy
    .exact ⟨w1,w2⟩
    .exact s3 y (List.mem_cons_of_mem _ hy)⟩,RA'.refl _⟩
 .have g0:=kF (k:=k) (z:=0) (by omega)
  have g1:=kF (k:=k) (z:=1) (by omega)
  have g2:=kF (k:=k) (z:=2) (by omega)
  have g3:=kF (k:=k) (z:=3) (by omega)
  have g4:=kF (k:=k) (z:=4) (by omega)
  have g5:=kF (k:=k) (z:=5) (by omega)
  have g6:=kF (k:=k) (z:=6) (by omega)
  have g7:=kF (k:=k) (z:=7) (by omega)
  have g8:=kF (k:=k) (z:=8) (by omega)
  have g9:=kF (k:=k) (z:=9) (by omega)
  (have hWf:=w10 @hln @hgd @g0 @g1 @g2 @g3 @g4 @g5 @g6 (ai @g7<|ai @g8<|@g9);repeat' (first|refine zS ?_|refine zI ?_ ?_|exact zF0|refine zD fun hb=>?_|exact zC|refine zT ?_|fail))
  all_goals first|exact ⟨c3,rfl⟩|(rw [List.length_set,List.length_set,List.length_map];first|done|exact Nat.le_refl _)|(refine ⟨_,yL hQ hi (hfr _ _ _ _) ⟨n1,n2,n3,n4,n5,n6⟩ ⟨m1,m2,m3⟩ (by rw [hpv0];exact Nat.le_succ _),RA'.refl _⟩)
theorem c_l04Any(c:Cur):FT 175 [c.d] (fun r o=>uk r/\∃ c',o=[Cur.d c']):=FCon.wa (R:=uk) (Q:=fun o=>∃ c',o=[Cur.d c']) (c_l04Any0 c)
theorem vV(s:ByteArray)(hs:s.size<=1100):FT 54 [.s (.string s)] (fun r _=>∃ (p:MProgram) (z a:Int),r=.tup [.ag [.osl 63 3 (p.types.map MType.own),.osl 55 6 (p.nodes.map MNode.own)],.s (.int .i64 z),.s (.int .i64 a)]/\GoodQ p):=by
 have hp:=YD s (by omega)
 have hq:=spar_q s hs;rw [MProgram.own_eq] at hp
 exact hp.mono fun r o e=>⟨_,_,_,e,hq⟩
theorem UR(c:Cur):FT 174 [c.d] (fun r o=>(∃ (p:MProgram) (rT rN:List (List D)),r=.ag [.osl 63 3 rT,.osl 55 6 rN]/\uk r)/\∃ c',o=[Cur.d c']):=(c_l03Q c).mono fun r o h=>by
 obtain ⟨⟨p,rfl,hp⟩,h2⟩:=h;exact ⟨⟨p,_,_,rfl,hp.x⟩,h2⟩
theorem YO(c:Cur):FT 175 [c.d] (fun r o=>(∃ (rT rN:List (List D)),r=.ag [.osl 63 3 rT,.osl 55 6 rN]/\uk r)/\∃ c',o=[Cur.d c']):=(c_l04Any c).mono fun r o h=>by
 obtain ⟨h1,h2⟩:=h;have h1':=h1;obtain ⟨p,rT,rN,rfl,-⟩:=h1';exact ⟨⟨rT,rN,rfl,h1⟩,h2⟩
theorem c_l08Any(c:Cur):FT 94 [c.d] (fun r o=>uk r/\∃ c',o=[Cur.d c']):=by
 refine FI PM Tryz.func94 Tryz.ntmps94 [] rfl rfl ?_
 iterate 2 (refine xE ?_;simp only [go_sem,simprocAttr];(have hWf:=f0;repeat' (first|refine zY ?_|refine zI ?_ ?_|((with_reducible apply xc);refine xu (V1 c) ?_;rintro _ _ ⟨⟨s,rfl,hs⟩,c1,rfl⟩)|refine zU (V1 c) ?_|((with_reducible apply xc);refine xu (vV s (by omega)) ?_;rintro _ _ ⟨p,z,a,rfl,hq⟩)|refine zU (vV s (by omega)) ?_|exact zF1|refine zD fun hb=>?_|exact zC|refine zT ?_|fail)))
 obtain ⟨y,c2,y0,y1,B2⟩:=xF c1 (n:=3) (by omega) (by omega)
 have tail:∀ c3:Cur,∃ (v:Int) (c4:Cur),0<=v/\v<20/\FT 53 [c3.d,.s (.int .i64 20)] (fun r o=>r=.s (.int .i64 v)/\o=[c4.d,.un]):=fun c3=>xF c3 (n:=20) (by omega) (by omega)
 rcases Bool.eq_false_or_eq_true (z != 0) with hz|hz
 .iterate 3 (refine xE ?_;simp only [go_sem,simprocAttr,hz];(have hWf:=w1 @hz;repeat' (first|refine zY ?_|refine zI ?_ ?_|((with_reducible apply xc);refine xu (UR c1) ?_;rintro _ _ ⟨⟨p',rT,rN,rfl,hx⟩,c3,rfl⟩)|refine zU (UR c1) ?_|exact zF1|refine zD fun hb=>?_|exact zC|refine zT ?_|fail)))
  obtain ⟨v,c4,v0,v1,B4⟩:=tail c3
  by_cases hv:v=0
  .have f4:=kT' hv
   (have hWf:=w1 @f4;repeat' (first|refine zS ?_|refine zI ?_ ?_|refine zH B4 ?_|((with_reducible apply xc);refine xu (YO c4) ?_;rintro _ _ ⟨⟨rT',rN',rfl,hx'⟩,c5,rfl⟩)|refine zU (YO c4) ?_|exact zF0|refine zD fun hb=>?_|exact zC|refine zT ?_|fail))
   all_goals first|exact hx'|exact ⟨c5,rfl⟩
  .have f4:=kF' hv
   (have hWf:=w1 @f4;repeat' (first|refine zS ?_|refine zI ?_ ?_|refine zH B4 ?_|exact zF0|refine zD fun hb=>?_|exact zC|refine zT ?_|fail))
   all_goals first|exact hx|exact ⟨c4,rfl⟩
 .by_cases hy:y=0
  .have f2:=kT' hy
   iterate 3 (refine xE ?_;simp only [go_sem,simprocAttr,hz,f2];(have hWf:=w2 @hz @f2;repeat' (first|refine zY ?_|refine zI ?_ ?_|refine zH B2 ?_|((with_reducible apply xc);refine xu (UR c2) ?_;rintro _ _ ⟨⟨p',rT,rN,rfl,hx⟩,c3,rfl⟩)|refine zU (UR c2) ?_|exact zF1|refine zD fun hb=>?_|exact zC|refine zT ?_|fail)))
   obtain ⟨v,c4,v0,v1,B4⟩:=tail c3
   by_cases hv:v=0
   .have f4:=kT' hv
    (have hWf:=w1 @f4;repeat' (first|refine zS ?_|refine zI ?_ ?_|refine zH B4 ?_|((with_reducible apply xc);refine xu (YO c4) ?_;rintro _ _ ⟨⟨rT',rN',rfl,hx'⟩,c5,rfl⟩)|refine zU (YO c4) ?_|exact zF0|refine zD fun hb=>?_|exact zC|refine zT ?_|fail))
    all_goals first|exact hx'|exact ⟨c5,rfl⟩
   .have f4:=kF' hv
    (have hWf:=w1 @f4;repeat' (first|refine zS ?_|refine zI ?_ ?_|refine zH B4 ?_|exact zF0|refine zD fun hb=>?_|exact zC|refine zT ?_|fail))
    all_goals first|exact hx|exact ⟨c4,rfl⟩
  .have f2:=kF' hy
   obtain ⟨v,c4,v0,v1,B4⟩:=tail c2
   by_cases hv:v=0
   .have f4:=kT' hv
    (have hWf:=w3 @hz @f2 @f4;repeat' (first|refine zS ?_|refine zI ?_ ?_|refine zH B2 ?_|refine zH B4 ?_|((with_reducible apply xc);refine xu (YO c4) ?_;rintro _ _ ⟨⟨rT',rN',rfl,hx'⟩,c5,rfl⟩)|refine zU (YO c4) ?_|exact zF0|refine zD fun hb=>?_|exact zC|refine zT ?_|fail))
    all_goals first|exact hx'|exact ⟨c5,rfl⟩
   .have f4:=kF' hv
    (have hWf:=w3 @hz @f2 @f4;repeat' (first|refine zS ?_|refine zI ?_ ?_|refine zH B2 ?_|refine zH B4 ?_|exact zF0|refine zD fun hb=>?_|exact zC|refine zT ?_|fail))
    all_goals first|exact hq.x|exact ⟨c4,rfl⟩
theorem US(c:Cur):FT 94 [c.d] (fun r o=>(∃ (rT rN:List (List D)),r=.ag [.osl 63 3 rT,.osl 55 6 rN]/\uk r)/\∃ c',o=[Cur.d c']):=(c_l08Any c).mono fun r o h=>by
 obtain ⟨h1,h2⟩:=h;have h1':=h1;obtain ⟨p,rT,rN,rfl,-⟩:=h1';exact ⟨⟨rT,rN,rfl,h1⟩,h2⟩
theorem c_l09Any(c:Cur):FT 40 [c.d] (fun r o=>uk r/\∃ c',o=[Cur.d c']):=by
 refine FI PM Tryz.func40 Tryz.ntmps40 [] rfl rfl ?_
 iterate 2 (refine xE ?_;simp only [go_sem,simprocAttr];(have hWf:=f0;repeat' (first|refine zY ?_|refine zI ?_ ?_|((with_reducible apply xc);refine xu (V2 c) ?_;rintro _ _ ⟨⟨s,rfl,hs⟩,c1,rfl⟩)|refine zU (V2 c) ?_|((with_reducible apply xc);refine xu (vV s (by omega)) ?_;rintro _ _ ⟨p,z,a,rfl,hq⟩)|refine zU (vV s (by omega)) ?_|exact zF1|refine zD fun hb=>?_|exact zC|refine zT ?_|fail)))
 obtain ⟨y,c2,y0,y1,B2⟩:=xF c1 (n:=3) (by omega) (by omega)
 rcases Bool.eq_false_or_eq_true (z != 0) with hz|hz
 ·(have hWf:=w1 @hz;repeat' (first|refine zS ?_|refine zI ?_ ?_|((with_reducible apply xc);refine xu (US c1) ?_;rintro _ _ ⟨⟨rT,rN,rfl,hx⟩,c3,rfl⟩)|refine zU (US c1) ?_|exact zF0|refine zD fun hb=>?_|exact zC|refine zT ?_|fail))
  all_goals first|exact hx|exact ⟨c3,rfl⟩
 .by_cases hy:y=0
  .have f2:=kT' hy
   (have hWf:=w2 @hz @f2;repeat' (first|refine zS ?_|refine zI ?_ ?_|refine zH B2 ?_|((with_reducible apply xc);refine xu (US c2) ?_;rintro _ _ ⟨⟨rT,rN,rfl,hx⟩,c3,rfl⟩)|refine zU (US c2) ?_|exact zF0|refine zD fun hb=>?_|exact zC|refine zT ?_|fail))
   all_goals first|exact hx|exact ⟨c3,rfl⟩
  .have f2:=kF' hy
   (have hWf:=w2 @hz @f2;repeat' (first|refine zS ?_|refine zI ?_ ?_|refine zH B2 ?_|exact zF0|refine zD fun hb=>?_|exact zC|refine zT ?_|fail))
   all_goals first|exact hq.x|exact ⟨c2,rfl⟩
theorem c_l09X(c:Cur):FT 40 [c.d] (fun r o=>(∃ (rT rN:List (List D)),r=.ag [.osl 63 3 rT,.osl 55 6 rN]/\uk r)/\∃ c',o=[Cur.d c']):=(c_l09Any c).mono fun r o h=>by
 obtain ⟨h1,h2⟩:=h;have h1':=h1;obtain ⟨p,rT,rN,rfl,-⟩:=h1';exact ⟨⟨rT,rN,rfl,h1⟩,h2⟩
theorem Zt(zs:List UInt8):FT 17 [.sl 1 (zs.map u8E)] (fun r _=>uk r):=by
 refine FI PM Tryz.func17 Tryz.ntmps17 [] rfl rfl ?_
 iterate 3 (refine xE ?_;simp only [go_sem,simprocAttr];(have hWf:=f0;repeat' (first|refine zY ?_|refine zI ?_ ?_|((with_reducible apply xc);refine xu (QX zs) ?_;rintro _ _ ⟨h,rfl⟩)|refine zU (QX zs) ?_|((with_reducible apply xc);refine xu (c_l09X ⟨zs,0,h⟩) ?_;rintro _ _ ⟨⟨rT,rN,rfl,hx⟩,c3,rfl⟩)|refine zU (c_l09X ⟨zs,0,h⟩) ?_|exact zF1|refine zD fun hb=>?_|exact zC|refine zT ?_|fail)))
 obtain ⟨y,c4,y0,y1,B4⟩:=xF c3 (n:=30) (by omega) (by omega)
 by_cases hy:y=0
 .have f4:=kT' hy
  obtain ⟨m,c5,m0,m1,B5⟩:=xF c4 (n:=20) (by omega) (by omega)
  obtain ⟨m,rfl⟩:=Int.eq_ofNat_of_zero_le m0
  (have hWf:=w1 @f4;repeat' (first|refine zS ?_|refine zI ?_ ?_|refine zH B4 ?_|refine zH B5 ?_|exact zF0|refine zD fun hb=>?_|exact zC|refine zT ?_|fail))
  refine xn (fun n σ=>∃ (k:Nat) (s:ByteArray),n=k/\k<=200/\s.size+2*k<=500/\σ.t 2=.bx 2 0/\σ.b 2=some (.box [.nil,.nil])/\σ.t 4=.bx 4 0/\σ.b 4=some (.box [.bs 1010 3 rT.length,.bs 2010 6 rN.length])/\σ.t 5=.s (.string s)/\σ.t 6=.s (.int .i64 k)) (140+m) ⟨140+m,⟨#[48]⟩,rfl,by omega,by have:(⟨#[48]⟩:ByteArray).size=1:=rfl;omega,?_⟩ ?_
  .simp only [go_sem,simprocAttr]
   exact xN (by omega)
  .rintro n σ ⟨k,s,rfl,hk,hs,h2,hb2,h4,hb4,h5,h6⟩ K' hK
   by_cases hz:n=0
   .subst hz
    (have hWf:=w7 @h2 @hb2 @h4 @hb4 @h5 @h6 @Int.natCast_zero;repeat' (first|refine zS ?_|refine zI ?_ ?_|((with_reducible apply xc);refine xu (vV s (by omega)) ?_;rintro _ _ ⟨p,z,a,rfl,hq⟩)|refine zU (vV s (by omega)) ?_|exact zF0|refine zD fun hb=>?_|exact zC|refine zT ?_|fail))
    all_goals exact hq.x
   .obtain ⟨j,rfl⟩:∃ j,n=j+1:=⟨n - 1,by omega⟩
    have e1:decide ((((j+1:Nat):Int))>0)=true:=by simp
    have e2:(#[43,49]:Array UInt8).size=2:=rfl
    (have hWf:=w7 @h2 @hb2 @h4 @hb4 @h5 @h6 @e1;repeat' (first|refine zS ?_|refine zI ?_ ?_|exact zF0|refine zD fun hb=>?_|exact zC|refine zT ?_|fail))
    refine hK j _ (by omega) ⟨j,s++⟨#[43,49]⟩,rfl,by omega,by have:(⟨#[43,49]⟩:ByteArray).size=2:=rfl;rw [ByteArray.size_append];omega,?_⟩
    simp only [go_sem,simprocAttr,h2,hb2,h4,hb4,h5,h6,cast1]
    all_goals exact xN (by omega)
 .have f4:=kF' hy
  (have hWf:=w1 @f4;repeat' (first|refine zS ?_|refine zI ?_ ?_|refine zH B4 ?_|exact zF0|refine zD fun hb=>?_|exact zC|refine zT ?_|fail))
  all_goals exact hx
end
section
attribute [local go_sem] List.map_append
open Go.RowKit Arb
def spD(T:List MType)(nodes:List MNode)(s:CS):List D:=[.sl 3 (T.map MType.enc),.sl 6 (nodes.map MNode.enc),.osl 49 4 (s.ins.map MIns.enc),.osl 89 1 (s.pats.map MPat.enc),.s (.bool s.lost)]
theorem xO(T:List MType)(nodes:List MNode)(s:CS):spD T nodes s=[.sl 3 (T.map MType.enc),.sl 6 (nodes.map MNode.enc),.osl 49 4 (s.ins.map MIns.enc),.osl 89 1 (s.pats.map MPat.enc),.s (.bool s.lost)]:=rfl
theorem MPat.frzE_eq(x:MPat):frzL x.enc=x.enc:=by simp only [MPat.enc_eq,frzL,frz]
theorem MPat.frzE(xs:List MPat):xU (xs.map MPat.enc)=xs.map MPat.enc:=yh MPat.frzE_eq xs
attribute [go_sem] MPat.frzE
theorem xQ(T:List MType)(nodes:List MNode)(s:CS)(op a b:Int)(x:ByteArray)(hl:s.ins.length<=1000000):FT 58 [.opt (spD T nodes s),.s (.int .i64 op),.s (.int .i64 a),.s (.int .i64 b),.s (.string x)] (fun r o=>r=.s (.int .i64 s.ins.length)/\o=[.opt (spD T nodes (s.emit ⟨op,a,b,x⟩)),.un,.un,.un,.un]):=by
 refine FI PM Tryz.func58 Tryz.ntmps58 [] rfl rfl ?_
 (have hWf:=w5 @xO @MIns.enc_eq @Q7 @Yt @V7;repeat' (first|refine zS ?_|refine zI ?_ ?_|exact zF0|refine zD fun hb=>?_|exact zC|refine zT ?_|fail))
 exact xN (by push_cast;omega)
theorem wO(T:List MType)(nodes:List MNode)(s:CS):FT 142 [.pt [.sl 3 (T.map MType.enc),.sl 6 (nodes.map MNode.enc),.sl 4 (s.ins.map MIns.enc),.sl 1 (s.pats.map MPat.enc),.s (.bool s.lost)]] (fun r _=>r=.s (.int .i64 s.ins.length)):=by
 refine FI PM Tryz.func142 Tryz.ntmps142 [] rfl rfl ?_
 (have hWf:=f0;repeat' (first|refine zS ?_|refine zI ?_ ?_|exact zF0|refine zD fun hb=>?_|exact zC|refine zT ?_|fail))
theorem wo(env:List ByteArray)(x:ByteArray)(hl:env.length<=10000000):FT 141 [.sl 1 (env.map stE),.s (.string x)] (fun r _=>r=.sl 1 ((env++[x]).map stE)):=by
 refine FCon.ice ?_;have hc:FT 141 [.sl 1 (env.map stE),.s (.string x)] (fun r _=>r=.osl 9 1 ((env++[x]).map stE)):=by
  refine FI PM Tryz.func141 Tryz.ntmps141 [] rfl rfl ?_
  (have hWf:=w1 @xH;repeat' (first|refine zS ?_|refine zI ?_ ?_|exact zF0|refine zD fun hb=>?_|exact zC|refine zT ?_|fail))
 exact hc.mono fun r _ e=>by subst e;simp only [frA,frz,xd]
theorem c_l10Copy(xs:List DPNode)(hl:xs.length<=1000000)(hk:∀ x∈xs,x.kids.length<=1000000):FT 208 [.ag [.sl 4 (xs.map DPNode.enc)]] (fun r _=>r=.ag [.sl 4 (xs.map DPNode.enc)]):=by
 refine FCon.ice ?_;have hc:FT 208 [.ag [.sl 4 (xs.map DPNode.enc)]] (fun r _=>r=.ag [.osl 126 4 (xs.map DPNode.own)]):=by
  refine FI PM Tryz.func208 Tryz.ntmps208 [] rfl rfl ?_
  (have hWf:=f0;repeat' (first|refine zS ?_|refine zI ?_ ?_|exact zF0|refine zD fun hb=>?_|exact zC|refine zT ?_|fail))
  refine Zx (zJ 3 0 777 (row:=[.nil]) 126 4 (by simp only [go_sem,simprocAttr]) rfl (by decide) rfl (xE ?_))
  simp only [go_sem,simprocAttr];refine xn (fun n σ=>∃ k:Nat,k<=xs.length/\n=xs.length - k/\σ.t 2=.bx 2 0/\σ.b 2=some (.box [.nil])/\σ.t 3=.bx 3 0/\σ.b 3=some (.box [.bs 777 4 k])/\σ.b 777=some (.arr 126 4 ((xs.take k).map DPNode.own))/\σ.t 8=.sl 4 (xs.map DPNode.enc)/\σ.t 9=.s (.int .i64 xs.length)/\σ.t 10=.s (.int .i64 k)) xs.length ⟨0,by omega,by omega,?_⟩ ?_
  .simp only [go_sem,simprocAttr,Int.natCast_zero,List.take_zero]
  .rintro n σ ⟨k,hk2,rfl,h2,b2,h3,b3,b7,h8,h9,h10⟩ K' hK
   by_cases hlt:k<xs.length
   .have hx:=xi DPNode.enc xs k hlt
    have he:=DPNode.enc_eq xs[k];have ho:=DPNode.own_eq xs[k];have htl:(xs.take k).length=k:=by rw [List.length_take];omega
    have hts:=List.take_succ_eq_append_getElem hlt;have hkk:=hk _ (List.getElem_mem hlt)
    (have hWf:=w10 @h2 @b2 @h3 @b3 @b7 @h8 @h9 @h10 @hx (ai @he<|@htl);repeat' (first|refine zS ?_|refine zI ?_ ?_|exact zF0|refine zD fun hb=>?_|exact zC|refine zT ?_|fail))
    refine hK (xs.length - (k+1)) _ (by omega) ⟨k+1,by omega,rfl,?_⟩
    simp only [go_sem,simprocAttr,h2,b2,h3,b3,b7,h8,h9,h10,Int.natCast_succ,hts,List.map_append,ho]
   .obtain rfl:k=xs.length:=by omega
    rw [List.take_length] at b7
    (have hWf:=w8 @h2 @b2 @h3 @b3 @b7 @h8 @h9 @h10;repeat' (first|refine zS ?_|refine zI ?_ ?_|exact zF0|refine zD fun hb=>?_|exact zC|refine zT ?_|fail))
 exact hc.mono fun r _ e=>by subst e;simp only [frA,frzL,List.map_cons,List.map_nil,frz,DPNode.frzS]
theorem take_rev'{α:Type}{l:List α}{q:Nat}(h:q<l.length):(l.take (q+1)).reverse=l[q]::(l.take q).reverse:=by
 rw [List.take_succ_eq_append_getElem h,List.reverse_append];rfl
theorem nameC_some'{x:ByteArray}{env:List ByteArray}{a:Nat}(s:CS)(h:varA env x=some a):zR x env s=s.emit ⟨6,a,0,eS⟩:=by unfold zR;rw [h]
theorem nameC_none'{x:ByteArray}{env:List ByteArray}(s:CS)(h:varA env x=none):zR x env s=⟨s.ins++[⟨7,0,0,x⟩],s.pats,s.lost||!yR x⟩:=by unfold zR;rw [h]
theorem c_l10Var(T:List MType)(nodes:List MNode)(s:CS)(env:List ByteArray)(x:ByteArray)(hl:s.ins.length<=1000000)(hle:env.length<=1000000):FT 139 [.opt (spD T nodes s),.s (.string x),.sl 1 (env.map stE)] (fun r o=>r=.tup []/\o=[.opt (spD T nodes (zR x env s)),.un,.un]):=by
 have hc7:∀ b,FT 58 [.opt [.sl 3 (T.map MType.enc),.sl 6 (nodes.map MNode.enc),.osl 49 4 (s.ins.map MIns.enc),.osl 89 1 (s.pats.map MPat.enc),.s (.bool b)],.s (.int .i64 7),.s (.int .i64 0),.s (.int .i64 0),.s (.string x)] (fun r o=>r=.s (.int .i64 s.ins.length)/\o=[.opt [.sl 3 (T.map MType.enc),.sl 6 (nodes.map MNode.enc),.osl 49 4 ((s.ins++[MIns.mk 7 0 0 x]).map MIns.enc),.osl 89 1 (s.pats.map MPat.enc),.s (.bool b)],.un,.un,.un,.un]):=fun b=>xQ T nodes ⟨s.ins,s.pats,b⟩ 7 0 0 x hl
 refine FI PM Tryz.func139 Tryz.ntmps139 [] rfl rfl ?_
 (have hWf:=w1 @xO;repeat' (first|refine zS ?_|refine zI ?_ ?_|exact zF0|refine zD fun hb=>?_|exact zC|refine zT ?_|fail))
 refine xn (fun n σ=>n<=env.length/\idxR x env.reverse 0=idxR x (env.take n).reverse (env.length - n)/\σ.t 0=.bx 900000 0/\σ.t 1=.s (.string x)/\σ.t 2=.sl 1 (env.map stE)/\σ.t 6=.s (.int .i64 ((n:Int) - 1)) /\
  σ.b 900000=some (.box [.sl 3 (T.map MType.enc),.sl 6 (nodes.map MNode.enc),.bs 3900000 4 s.ins.length,.bs 4900000 1 s.pats.length,.s (.bool s.lost)])/\σ.b 3900000=some (.arr 49 4 (s.ins.map MIns.enc))/\σ.b 4900000=some (.arr 89 1 (s.pats.map MPat.enc))) env.length ⟨Nat.le_refl _,?_,?_⟩ ?_
 .rw [List.take_length,Nat.sub_self]
 .simp only [go_sem,simprocAttr]
 .rintro n σ ⟨hn,hix,h0,h1,h2,h6,b0,b1,b2⟩ K' hK
  cases n with
  | zero=>
   have hno:varA env x=none:=by unfold varA;rw [hix];rfl
   have h6:σ.t 6=.s (.int .i64 (-1)):=h6;rw [nameC_none' s hno];cases hg:yR x with
   | true=>
    unfold yR at hg
    have hcc:=hc7 s.lost;simp only [Bool.or_eq_true,beq_iff_eq] at hg
    simp only [Bool.not_true,Bool.or_false];rcases hg with ((h|h)|h)|h
    all_goals
     have e1:(x.toList==[112,114,105,110,116])=(x.toList==[112,114,105,110,116]):=rfl
     conv at e1=>rhs;rw [h];simp
     have e2:(x.toList==[115,97,121])=(x.toList==[115,97,121]):=rfl
     conv at e2=>rhs;rw [h];simp
     have e3:(x.toList==[114,101,97,100])=(x.toList==[114,101,97,100]):=rfl
     conv at e3=>rhs;rw [h];simp
     have e4:(x.toList==[115,105,122,101])=(x.toList==[115,105,122,101]):=rfl
     conv at e4=>rhs;rw [h];simp
     (have hWf:=w10 @h0 @h1 @h2 @h6 @b0 @b1 @b2 @uA9 @Yc (ai @Xc<|ai @Xd<|ai @e1<|ai @e2<|ai @e3<|@e4);repeat' (first|refine zS ?_|refine zI ?_ ?_|refine zH hcc ?_|exact zF0|refine zD fun hb=>?_|exact zC|refine zT ?_|fail))
     all_goals first|rfl|skip
   | false=>
    unfold yR at hg
    have hcc:=hc7 true;simp only [Bool.or_eq_false_iff] at hg
    simp only [Bool.not_false,Bool.or_true];obtain ⟨⟨⟨e1,e2⟩,e3⟩,e4⟩:=hg
    (have hWf:=w10 @h0 @h1 @h2 @h6 @b0 @b1 @b2 @uA9 @Yc (ai @Xc<|ai @Xd<|ai @e1<|ai @e2<|ai @e3<|@e4);repeat' (first|refine zS ?_|refine zI ?_ ?_|refine zH hcc ?_|exact zF0|refine zD fun hb=>?_|exact zC|refine zT ?_|fail))
    all_goals first|rfl|skip
  | succ q=>
   have hq:q<env.length:=by omega
   have h6:σ.t 6=.s (.int .i64 q):=by rw [h6];exact xN (by push_cast;omega)
   have hx:=xi stE env q hq;have he:=xH env[q];rw [take_rev' hq] at hix
   have hc:=xQ T nodes s 6 ((env.length:Int) - 1 - q) 0 eS hl;rw [xO,xO] at hc
   by_cases hp:env[q]=x
   .have hp':=zN hp
    have hv:varA env x=some (env.length - (q+1)):=by unfold varA;rw [hix,idxR,if_pos hp]
    rw [nameC_some' s hv]
    (have hWf:=w10 @h0 @h1 @h2 @h6 @b0 @b1 @b2 @hx @he @hp';repeat' (first|refine zS ?_|refine zI ?_ ?_|refine zH hc ?_|exact zF0|refine zD fun hb=>?_|exact zC|refine zT ?_|fail))
    have e:(env.length:Int) - 1 - q=((env.length - (q+1):Nat):Int):=by omega
    rw [e]
   .have hp':=zb hp
    (have hWf:=w10 @h0 @h1 @h2 @h6 @b0 @b1 @b2 @hx @he @hp';repeat' (first|refine zS ?_|refine zI ?_ ?_|exact zF0|refine zD fun hb=>?_|exact zC|refine zT ?_|fail))
    refine hK q _ (by omega) ⟨by omega,?_,?_⟩
    .rw [hix,idxR,if_neg hp]
     congr 1;omega
    .simp only [go_sem,simprocAttr,h0,h1,h2,h6,b0,b1,b2]
end
section
open Go.RowKit Arb
abbrev BdS(t:ET)(env:List ByteArray)(s:CS):Prop:=s.ins.length+4*t.size<=100000/\s.pats.length+2*t.size<=100000/\env.length+601*t.size<=1000000
def SE(T:List MType)(nodes:List MNode)(t:ET):Prop:=∀ (m:Nat) (env:List ByteArray) (s:CS),At EI.node nodes m t->BdS t env s->FT 57 [.opt (spD T nodes s),.s (.int .i64 m),.sl 1 (env.map stE)] (fun r o=>r=.tup []/\o=[.opt (spD T nodes (cmp false t env s)),.un,.un])
theorem setA_at'{l:List MIns}{k:Nat}(h:k<l.length)(v:Int):setA l k v=l.set k ⟨l[k].op,v,l[k].b,l[k].s⟩:=by unfold setA;rw [List.getElem?_eq_getElem h]
theorem setB_at'{l:List MIns}{k:Nat}(h:k<l.length)(v:Int):setB l k v=l.set k ⟨l[k].op,l[k].a,v,l[k].s⟩:=by unfold setB;rw [List.getElem?_eq_getElem h]
theorem Xa{s:CS}{k:Nat}(hk:k<s.ins.length):(s.ins.map MIns.enc).set k [.s (.int .i64 s.ins[k].op),.s (.int .i64 s.ins.length),.s (.int .i64 s.ins[k].b),.s (.string s.ins[k].s)]=(s.here k).ins.map MIns.enc:=by
 show _=(setA s.ins k s.ins.length).map MIns.enc;rw [setA_at' hk,List.map_set];rfl
theorem yG(a:EI)(l:List Int):(a.node l).enc=[.s (.int .i64 a.kind),.s (.int .i64 a.at_),.s (.int .i64 a.n),.s (.string a.s),.sl 1 (l.map iE),.sl 1 (a.pats.map MPat.enc)]:=rfl
theorem zk{nodes:List MNode}{m:Nat}{a:EI}{l:List ET}(h:At EI.node nodes m (.mk a l)):(nodes.map MNode.enc).getD m []=(a.node (idxs (m+1) l)).enc:=by
 obtain ⟨hm,hr⟩:=List.getElem?_eq_some_iff.1 h.root;rw [xi MNode.enc nodes m hm,hr]
theorem V3(T:List MType)(nodes:List MNode)(b:EI)(x:ET)(m:Nat)(hA:At EI.node nodes m (.mk b [x]))(hE:SE T nodes x)(ox:okT x)(op:Int)(env:List ByteArray)(s0:CS)(hb:s0.ins.length+4*x.size+3<=100000/\s0.pats.length+2*x.size<=100000/\env.length+1+601*x.size<=1000000) :
  FT 140 [.opt (spD T nodes s0),.s (.int .i64 op),.s (.int .i64 m),.sl 1 (env.map stE)] (fun r o=>r=.tup []/\o=[.opt (spD T nodes (funC op (cmp false x) [b.s] env s0)),.un,.un,.un]):=by
 have hx:=zk hA;have he:=yG b (idxs (m+1) [x]);have hlt:=hA.lt;have hg:=xm false x ox;have hid:(idxs (m+1) [x]).map iE=[[.s (.int .i64 ((m+1:Nat):Int))]]:=rfl;rw [hid] at he
 have c0:=wO T nodes s0;have c1:=xQ T nodes s0 op ((s0.ins.length:Int)+2) 0 eS (by omega)
 obtain ⟨s1,h1⟩:∃ q,q=s0.emit ⟨op,(s0.ins.length:Int)+2,0,eS⟩:=⟨_,rfl⟩;have q1:s1.ins.length=s0.ins.length+1/\s1.pats.length=s0.pats.length:=by rw [h1];exact ⟨xk _ _,rfl⟩
 rw [<- h1] at c1
 have c2:=xQ T nodes s1 12 0 0 eS (by omega)
 obtain ⟨s2,h2⟩:∃ q,q=s1.emit ⟨12,0,0,eS⟩:=⟨_,rfl⟩;have q2:s2.ins.length=s1.ins.length+1/\s2.pats.length=s1.pats.length:=by rw [h2];exact ⟨xk _ _,rfl⟩
 rw [<- h2] at c2
 have cu:=wo env b.s (by omega)
 have c3:=hE (m+1) (env++[b.s]) s2 hA.kids.head ⟨by omega,by omega,by rw [List.length_append];simp only [List.length_cons,List.length_nil];omega⟩
 have q3:=And.intro (hg.lo (env++[b.s]) s2) (hg.hi (env++[b.s]) s2);obtain ⟨s3,h3⟩:∃ q,q=cmp false x (env++[b.s]) s2:=⟨_,rfl⟩;rw [<- h3] at c3 q3
 have c4:=xQ T nodes s3 11 0 0 eS (by omega)
 obtain ⟨s4,h4⟩:∃ q,q=s3.emit ⟨11,0,0,eS⟩:=⟨_,rfl⟩;have q4:s4.ins.length=s3.ins.length+1:=by rw [h4];exact xk _ _
 rw [<- h4] at c4
 have c5:=wO T nodes s4;have hil:s1.ins.length<s4.ins.length:=by omega
 have hx5:=xi MIns.enc s4.ins s1.ins.length hil;have he5:=MIns.enc_eq s4.ins[s1.ins.length];have hs5:=Xa hil;have hl5:=yc s4 s1.ins.length;have hf:funC op (cmp false x) [b.s] env s0=s4.here s1.ins.length:=by
  rw [h4,h3,h2,q1.1,h1];rfl
 rw [hf];clear hf h1 h2 h3 h4;refine FI PM Tryz.func140 Tryz.ntmps140 [(3,9,[],[],(lin [] [0,1,2,3,4,5,6,7,8])),(5,8,[],[],(lin [] [0,1,2,3,4,5,6,7]))] rfl rfl ?_
 (have hWf:=w9 @xO @hx @he @hx5 @he5 @hs5 @hl5 @ZW @ZV;repeat' (first|refine zS ?_|refine zI ?_ ?_|refine zK c0 ?_|refine zH c1 ?_|refine zH c2 ?_|refine zK cu ?_|refine zH c3 ?_|refine zH c4 ?_|refine zK c5 ?_|exact zF0|refine zD fun hb=>?_|exact zC|refine zT ?_|fail))
def opK(k:Int):Int:=if k=6 then 10 else if k=10 then 16 else if k=11 then 5 else if k=18 then 24 else if k=16 then 22 else if k=17 then 23 else if k=14 then 17 else 0
theorem zQ(k:Int)(hk:1<=k/\k<=19):FT 138 [.s (.int .i64 k)] (fun r _=>r=.s (.int .i64 (opK k))):=by
 rcases (show k=1\/k=2\/k=3\/k=4\/k=5\/k=6\/k=7\/k=8\/k=9\/k=10\/k=11\/k=12\/k=13\/k=14\/k=15\/k=16\/k=17\/k=18\/k=19 by omega) with rfl|rfl|rfl|rfl|rfl|rfl|rfl|rfl|rfl|rfl|rfl|rfl|rfl|rfl|rfl|rfl|rfl|rfl|rfl
 all_goals
  clear hk;refine FI PM Tryz.func138 Tryz.ntmps138 [] rfl rfl ?_
  (have hWf:=f0;repeat' (first|refine zS ?_|refine zI ?_ ?_|exact zF0|refine zD fun hb=>?_|exact zC|refine zT ?_|fail))
  all_goals (try rfl)
theorem kidsC_s{l:List ET}{k:Nat}(h:k<l.length)(chk:Bool)(env:List ByteArray)(s:CS):x6 ((l.take (k+1)).map (cmp chk)) env s=cmp chk l[k] env (x6 ((l.take k).map (cmp chk)) env s):=by
 unfold x6;rw [List.take_succ_eq_append_getElem h,List.map_append,List.foldl_append];rfl
theorem xaD{l:List ET}{k:Nat}(h:k<l.length):sizeL (l.take k)+l[k].size<=sizeL l:=by
 have:=List.take_append_drop k l;have e:=congrArg sizeL this;rw [sizeL_app,List.drop_eq_getElem_cons h,sizeL_cons] at e
 omega
theorem zW(s:CS):ya false s=false:=rfl
theorem Wr{s:ByteArray}(h:s.toList=[]):s=eS:=by
 have:s.data.toList=[]:=by rw [<- ByteArray.toList_eq];exact h
 apply ByteArray.ext;apply Array.ext';exact this
theorem uA6(T:List MType)(nodes:List MNode)(a:EI)(l:List ET)(ok:okT (.mk a l))(ih:∀ t∈l,SE T nodes t)(m:Nat)(env:List ByteArray)(s:CS)(hA:At EI.node nodes m (.mk a l))(hb:BdS (.mk a l) env s)(ho:0<opK a.kind)(hx0:endI a l.length=⟨opK a.kind,0,0,a.s⟩) :
  FT 57 [.opt (spD T nodes s),.s (.int .i64 m),.sl 1 (env.map stE)] (fun r o=>r=.tup []/\o=[.opt (spD T nodes (cmp false (.mk a l) env s)),.un,.un]):=by
 have he:endK a.kind=true:=by
  unfold opK at ho
  unfold endK;split at ho
  .simp [*]
  split at ho
  .simp [*]
  split at ho
  .simp [*]
  split at ho
  .simp [*]
  split at ho
  .simp [*]
  split at ho
  .simp [*]
  split at ho
  .simp [*]
  .omega
 rw [wg (zW s) he,hx0];have hx:=zk hA;have hee:=yG a (idxs (m+1) l);have hlt:=hA.lt;have hop:=zQ a.kind (kind_of ok.root);have hod:decide (opK a.kind>0)=true:=decide_eq_true ho;have hgr:=fun (k:Nat) (h:k<=l.length)=>Wu false (l.take k) fun t ht=>xm false t (ok.kid t (List.mem_of_mem_take ht))
 obtain ⟨b1,b2,b3⟩:=hb;rw [size_mk] at b1 b2 b3
 have hsl:=sizeL_len l;have hil:=idxs_len (m+1) l;refine FI PM Tryz.func57 Tryz.ntmps57 [(36,9,[],[],(lin [] [0,1,2,3,4,5,6,7,8])),(43,8,[],[],(lin [] [0,1,2,3,4,5,6,7])),(45,8,[],[],(lin [] [0,1,2,3,4,5,6,7])),(51,8,[],[],(lin [] [0,1,2,3,4,5,6,7])),(52,9,[],[],(lin [] [0,1,2,3,4,5,6,7,8])),(54,8,[],[],(lin [] [0,1,2,3,4,5,6,7]))] rfl rfl ?_
 (have hWf:=w5 @xO @hx @hee @hod @hil;repeat' (first|refine zS ?_|refine zI ?_ ?_|refine zK hop ?_|exact zF0|refine zD fun hb=>?_|exact zC|refine zT ?_|fail))
 refine xn (fun n σ=>∃ k:Nat,k<=l.length/\n=l.length - k/\σ.t 0=.bx 900000 0/\σ.t 2=.sl 1 (env.map stE)/\σ.t 6=.bx 6 0/\σ.t 7=.s (.int .i64 (opK a.kind))/\σ.t 29=.sl 1 ((idxs (m+1) l).map iE)/\σ.t 30=.s (.int .i64 l.length)/\σ.t 31=.s (.int .i64 k) /\
  σ.b 6=some (.box [.s (.int .i64 a.kind),.s (.int .i64 a.at_),.s (.int .i64 a.n),.s (.string a.s),.sl 1 ((idxs (m+1) l).map iE),.sl 1 (a.pats.map MPat.enc)]) /\
  σ.b 900000=some (.box [.sl 3 (T.map MType.enc),.sl 6 (nodes.map MNode.enc),.bs 3900000 4 (x6 ((l.take k).map (cmp false)) env s).ins.length,.bs 4900000 1 (x6 ((l.take k).map (cmp false)) env s).pats.length,.s (.bool (x6 ((l.take k).map (cmp false)) env s).lost)]) /\
  σ.b 3900000=some (.arr 49 4 ((x6 ((l.take k).map (cmp false)) env s).ins.map MIns.enc))/\σ.b 4900000=some (.arr 89 1 ((x6 ((l.take k).map (cmp false)) env s).pats.map MPat.enc))) l.length ⟨0,by omega,by omega,?_⟩ ?_
 .simp only [go_sem,simprocAttr,Int.natCast_zero,List.take_zero,List.map_nil,x6,List.foldl_nil]
 .rintro n σ ⟨k,hk,rfl,h0,h2,h6,h7,h29,h30,h31,c6,c0,c1,c2⟩ K' hK
  by_cases hlt:k<l.length
  .have hlt2:k<(idxs (m+1) l).length:=by rw [hil];exact hlt
   have hx2:=xi iE (idxs (m+1) l) k hlt2;have he2:iE (idxs (m+1) l)[k]=[.s (.int .i64 ((m+1+sizeL (l.take k):Nat):Int))]:=by rw [idxs_at (m+1) l k hlt];rfl
   have hst:=kidsC_s hlt false env s;have g:=hgr k hk;have g1:=g.hi env s;have g2:=g.phi env s;have hsp:=xaD hlt;have hc:=ih l[k] (List.getElem_mem hlt) _ env (x6 ((l.take k).map (cmp false)) env s) (hA.kids.at k hlt) ⟨by omega,by omega,by omega⟩
   rw [<- hst] at hc
   (have hWf:=w10 @xO @h0 @h2 @h6 @h7 @h29 @h30 @h31 @c6 (ai @c0<|ai @c1<|ai @c2<|ai @hx2<|ai @he2<|@hil);repeat' (first|refine zS ?_|refine zI ?_ ?_|refine zH hc ?_|exact zF0|refine zD fun hb=>?_|exact zC|refine zT ?_|fail))
   refine hK (l.length - (k+1)) _ (by omega) ⟨k+1,by omega,rfl,?_⟩
   simp only [go_sem,simprocAttr,h0,h2,h6,h7,h29,h30,h31,c6,c0,c1,c2,Int.natCast_succ,xO]
  .obtain rfl:k=l.length:=by omega
   have g:=(hgr l.length hk).hi env s;rw [List.take_length] at c0 c1 c2 g
   have hc:=xQ T nodes (x6 (l.map (cmp false)) env s) (opK a.kind) 0 0 a.s (by omega)
   (have hWf:=w10 @xO @h0 @h2 @h6 @h7 @h29 @h30 @h31 @c6 (ai @c0<|ai @c1<|ai @c2<|@hil);repeat' (first|refine zS ?_|refine zI ?_ ?_|refine zH hc ?_|exact zF0|refine zD fun hb=>?_|exact zC|refine zT ?_|fail))
   all_goals first|rfl|skip
theorem exprS_int(T:List MType)(nodes:List MNode)(a:EI)  (m:Nat)(env:List ByteArray)(s0:CS)(hA:At EI.node nodes m (.mk a []))(hb:BdS (.mk a []) env s0)(k:a.kind=1):FT 57 [.opt (spD T nodes s0),.s (.int .i64 m),.sl 1 (env.map stE)] (fun r o=>r=.tup []/\o=[.opt (spD T nodes (cmp false (.mk a []) env s0)),.un,.un]):=by
 have hx:=zk hA;have he:=yG a (idxs (m+1) ([]:List ET));have hlt:=hA.lt;have hid:(idxs (m+1) ([]:List ET)).map iE=[]:=rfl;rw [hid] at he
 have hop:FT 138 [.s (.int .i64 1)] (fun r _=>r=.s (.int .i64 0)):=zQ 1 (by omega)
 obtain ⟨b1,b2,b3⟩:=hb;simp only [size_mk,sizeL_cons,sizeL_nil] at b1 b2 b3
 have c1:=xQ T nodes s0 1 (a.n) 0 eS (by omega)
 have q1:(s0.emit ⟨1,a.n,0,eS⟩).ins.length=s0.ins.length+1/\(s0.emit ⟨1,a.n,0,eS⟩).pats.length=s0.pats.length:=⟨xk _ _,rfl⟩;obtain ⟨s1,h1⟩:∃ q,q=s0.emit ⟨1,a.n,0,eS⟩:=⟨_,rfl⟩;rw [<- h1] at c1 q1
 have hf:cmp false (.mk a []) env s0=s1:=by
  rw [wg (zW s0) (by rw [k];rfl),h1]
  unfold endI x6
  simp [k]
 rw [hf];clear hf h1;refine FI PM Tryz.func57 Tryz.ntmps57 [(36,9,[],[],(lin [] [0,1,2,3,4,5,6,7,8])),(43,8,[],[],(lin [] [0,1,2,3,4,5,6,7])),(45,8,[],[],(lin [] [0,1,2,3,4,5,6,7])),(51,8,[],[],(lin [] [0,1,2,3,4,5,6,7])),(52,9,[],[],(lin [] [0,1,2,3,4,5,6,7,8])),(54,8,[],[],(lin [] [0,1,2,3,4,5,6,7]))] rfl rfl ?_
 (have hWf:=w4 @xO @hx @he @k;repeat' (first|refine zS ?_|refine zI ?_ ?_|refine zK hop ?_|refine zH c1 ?_|exact zF0|refine zD fun hb=>?_|exact zC|refine zT ?_|fail))
 all_goals first|rfl|skip
theorem exprS_str(T:List MType)(nodes:List MNode)(a:EI)  (m:Nat)(env:List ByteArray)(s0:CS)(hA:At EI.node nodes m (.mk a []))(hb:BdS (.mk a []) env s0)(k:a.kind=2):FT 57 [.opt (spD T nodes s0),.s (.int .i64 m),.sl 1 (env.map stE)] (fun r o=>r=.tup []/\o=[.opt (spD T nodes (cmp false (.mk a []) env s0)),.un,.un]):=by
 have hx:=zk hA;have he:=yG a (idxs (m+1) ([]:List ET));have hlt:=hA.lt;have hid:(idxs (m+1) ([]:List ET)).map iE=[]:=rfl;rw [hid] at he
 have hop:FT 138 [.s (.int .i64 2)] (fun r _=>r=.s (.int .i64 0)):=zQ 2 (by omega)
 obtain ⟨b1,b2,b3⟩:=hb;simp only [size_mk,sizeL_cons,sizeL_nil] at b1 b2 b3
 have c1:=xQ T nodes s0 2 0 0 (a.s) (by omega)
 have q1:(s0.emit ⟨2,0,0,a.s⟩).ins.length=s0.ins.length+1/\(s0.emit ⟨2,0,0,a.s⟩).pats.length=s0.pats.length:=⟨xk _ _,rfl⟩;obtain ⟨s1,h1⟩:∃ q,q=s0.emit ⟨2,0,0,a.s⟩:=⟨_,rfl⟩;rw [<- h1] at c1 q1
 have hf:cmp false (.mk a []) env s0=s1:=by
  rw [wg (zW s0) (by rw [k];rfl),h1]
  unfold endI x6
  simp [k]
 rw [hf];clear hf h1;refine FI PM Tryz.func57 Tryz.ntmps57 [(36,9,[],[],(lin [] [0,1,2,3,4,5,6,7,8])),(43,8,[],[],(lin [] [0,1,2,3,4,5,6,7])),(45,8,[],[],(lin [] [0,1,2,3,4,5,6,7])),(51,8,[],[],(lin [] [0,1,2,3,4,5,6,7])),(52,9,[],[],(lin [] [0,1,2,3,4,5,6,7,8])),(54,8,[],[],(lin [] [0,1,2,3,4,5,6,7]))] rfl rfl ?_
 (have hWf:=w4 @xO @hx @he @k;repeat' (first|refine zS ?_|refine zI ?_ ?_|refine zK hop ?_|refine zH c1 ?_|exact zF0|refine zD fun hb=>?_|exact zC|refine zT ?_|fail))
 all_goals first|rfl|skip
theorem xbJ(T:List MType)(nodes:List MNode)(a:EI)  (m:Nat)(env:List ByteArray)(s0:CS)(hA:At EI.node nodes m (.mk a []))(hb:BdS (.mk a []) env s0)(k:a.kind=12):FT 57 [.opt (spD T nodes s0),.s (.int .i64 m),.sl 1 (env.map stE)] (fun r o=>r=.tup []/\o=[.opt (spD T nodes (cmp false (.mk a []) env s0)),.un,.un]):=by
 have hx:=zk hA;have he:=yG a (idxs (m+1) ([]:List ET));have hlt:=hA.lt;have hid:(idxs (m+1) ([]:List ET)).map iE=[]:=rfl;rw [hid] at he
 have hop:FT 138 [.s (.int .i64 12)] (fun r _=>r=.s (.int .i64 0)):=zQ 12 (by omega)
 obtain ⟨b1,b2,b3⟩:=hb;simp only [size_mk,sizeL_cons,sizeL_nil] at b1 b2 b3
 have c1:=xQ T nodes s0 3 0 0 eS (by omega)
 have q1:(s0.emit ⟨3,0,0,eS⟩).ins.length=s0.ins.length+1/\(s0.emit ⟨3,0,0,eS⟩).pats.length=s0.pats.length:=⟨xk _ _,rfl⟩;obtain ⟨s1,h1⟩:∃ q,q=s0.emit ⟨3,0,0,eS⟩:=⟨_,rfl⟩;rw [<- h1] at c1 q1
 have hf:cmp false (.mk a []) env s0=s1:=by
  rw [wg (zW s0) (by rw [k];rfl),h1]
  unfold endI x6
  simp [k]
 rw [hf];clear hf h1;refine FI PM Tryz.func57 Tryz.ntmps57 [(36,9,[],[],(lin [] [0,1,2,3,4,5,6,7,8])),(43,8,[],[],(lin [] [0,1,2,3,4,5,6,7])),(45,8,[],[],(lin [] [0,1,2,3,4,5,6,7])),(51,8,[],[],(lin [] [0,1,2,3,4,5,6,7])),(52,9,[],[],(lin [] [0,1,2,3,4,5,6,7,8])),(54,8,[],[],(lin [] [0,1,2,3,4,5,6,7]))] rfl rfl ?_
 (have hWf:=w4 @xO @hx @he @k;repeat' (first|refine zS ?_|refine zI ?_ ?_|refine zK hop ?_|refine zH c1 ?_|exact zF0|refine zD fun hb=>?_|exact zC|refine zT ?_|fail))
 all_goals first|rfl|skip
theorem xbE(T:List MType)(nodes:List MNode)(a:EI)  (m:Nat)(env:List ByteArray)(s0:CS)(hA:At EI.node nodes m (.mk a []))(hb:BdS (.mk a []) env s0)(k:a.kind=4):FT 57 [.opt (spD T nodes s0),.s (.int .i64 m),.sl 1 (env.map stE)] (fun r o=>r=.tup []/\o=[.opt (spD T nodes (cmp false (.mk a []) env s0)),.un,.un]):=by
 have hx:=zk hA;have he:=yG a (idxs (m+1) ([]:List ET));have hlt:=hA.lt;have hid:(idxs (m+1) ([]:List ET)).map iE=[]:=rfl;rw [hid] at he
 have hop:FT 138 [.s (.int .i64 4)] (fun r _=>r=.s (.int .i64 0)):=zQ 4 (by omega)
 obtain ⟨b1,b2,b3⟩:=hb;simp only [size_mk,sizeL_cons,sizeL_nil] at b1 b2 b3
 have c1:=xQ T nodes s0 4 0 0 (a.s) (by omega)
 have q1:(s0.emit ⟨4,0,0,a.s⟩).ins.length=s0.ins.length+1/\(s0.emit ⟨4,0,0,a.s⟩).pats.length=s0.pats.length:=⟨xk _ _,rfl⟩;obtain ⟨s1,h1⟩:∃ q,q=s0.emit ⟨4,0,0,a.s⟩:=⟨_,rfl⟩;rw [<- h1] at c1 q1
 have hf:cmp false (.mk a []) env s0=s1:=by
  rw [wg (zW s0) (by rw [k];rfl),h1]
  unfold endI x6
  simp [k]
 rw [hf];clear hf h1;refine FI PM Tryz.func57 Tryz.ntmps57 [(36,9,[],[],(lin [] [0,1,2,3,4,5,6,7,8])),(43,8,[],[],(lin [] [0,1,2,3,4,5,6,7])),(45,8,[],[],(lin [] [0,1,2,3,4,5,6,7])),(51,8,[],[],(lin [] [0,1,2,3,4,5,6,7])),(52,9,[],[],(lin [] [0,1,2,3,4,5,6,7,8])),(54,8,[],[],(lin [] [0,1,2,3,4,5,6,7]))] rfl rfl ?_
 (have hWf:=w4 @xO @hx @he @k;repeat' (first|refine zS ?_|refine zI ?_ ?_|refine zK hop ?_|refine zH c1 ?_|exact zF0|refine zD fun hb=>?_|exact zC|refine zT ?_|fail))
 all_goals first|rfl|skip
theorem U0(T:List MType)(nodes:List MNode)(a:EI)(x:ET)(ix:SE T nodes x)(ox:okT x)(m:Nat)(env:List ByteArray)(s0:CS)(hA:At EI.node nodes m (.mk a [x]))(hb:BdS (.mk a [x]) env s0)(k:a.kind=4):FT 57 [.opt (spD T nodes s0),.s (.int .i64 m),.sl 1 (env.map stE)] (fun r o=>r=.tup []/\o=[.opt (spD T nodes (cmp false (.mk a [x]) env s0)),.un,.un]):=by
 have hx:=zk hA;have he:=yG a (idxs (m+1) ([x]:List ET));have hlt:=hA.lt;have hid:(idxs (m+1) ([x]:List ET)).map iE=[[.s (.int .i64 ((m+1:Nat):Int))]]:=rfl;rw [hid] at he
 have hop:FT 138 [.s (.int .i64 4)] (fun r _=>r=.s (.int .i64 0)):=zQ 4 (by omega)
 obtain ⟨b1,b2,b3⟩:=hb;simp only [size_mk,sizeL_cons,sizeL_nil] at b1 b2 b3
 have zx:=size_pos x;have c1:=ix (m+1) env s0 hA.kids.head ⟨by omega,by omega,by omega⟩
 have q1:=And.intro ((xm false x ox).lo env s0) (And.intro ((xm false x ox).hi env s0) ((xm false x ox).phi env s0));obtain ⟨s1,h1⟩:∃ q,q=cmp false x env s0:=⟨_,rfl⟩;rw [<- h1] at c1 q1
 have c2:=xQ T nodes s1 4 1 0 (a.s) (by omega)
 have q2:(s1.emit ⟨4,1,0,a.s⟩).ins.length=s1.ins.length+1/\(s1.emit ⟨4,1,0,a.s⟩).pats.length=s1.pats.length:=⟨xk _ _,rfl⟩;obtain ⟨s2,h2⟩:∃ q,q=s1.emit ⟨4,1,0,a.s⟩:=⟨_,rfl⟩;rw [<- h2] at c2 q2
 have hf:cmp false (.mk a [x]) env s0=s2:=by
  rw [wg (zW s0) (by rw [k];rfl),h2,h1]
  unfold endI x6
  simp [k]
 rw [hf];clear hf h1 h2;refine FI PM Tryz.func57 Tryz.ntmps57 [(36,9,[],[],(lin [] [0,1,2,3,4,5,6,7,8])),(43,8,[],[],(lin [] [0,1,2,3,4,5,6,7])),(45,8,[],[],(lin [] [0,1,2,3,4,5,6,7])),(51,8,[],[],(lin [] [0,1,2,3,4,5,6,7])),(52,9,[],[],(lin [] [0,1,2,3,4,5,6,7,8])),(54,8,[],[],(lin [] [0,1,2,3,4,5,6,7]))] rfl rfl ?_
 (have hWf:=w4 @xO @hx @he @k;repeat' (first|refine zS ?_|refine zI ?_ ?_|refine zK hop ?_|refine zH c1 ?_|refine zH c2 ?_|exact zF0|refine zD fun hb=>?_|exact zC|refine zT ?_|fail))
 all_goals first|rfl|skip
theorem exprS_var(T:List MType)(nodes:List MNode)(a:EI)  (m:Nat)(env:List ByteArray)(s0:CS)(hA:At EI.node nodes m (.mk a []))(hb:BdS (.mk a []) env s0)(k:a.kind=3):FT 57 [.opt (spD T nodes s0),.s (.int .i64 m),.sl 1 (env.map stE)] (fun r o=>r=.tup []/\o=[.opt (spD T nodes (cmp false (.mk a []) env s0)),.un,.un]):=by
 have hx:=zk hA;have he:=yG a (idxs (m+1) ([]:List ET));have hlt:=hA.lt;have hid:(idxs (m+1) ([]:List ET)).map iE=[]:=rfl;rw [hid] at he
 have hop:FT 138 [.s (.int .i64 3)] (fun r _=>r=.s (.int .i64 0)):=zQ 3 (by omega)
 obtain ⟨b1,b2,b3⟩:=hb;simp only [size_mk,sizeL_cons,sizeL_nil] at b1 b2 b3
 have c1:=c_l10Var T nodes s0 env a.s (by omega) (by omega)
 have q1:=(gr_name a.s).hi env s0;obtain ⟨s1,h1⟩:∃ q,q=zR a.s env s0:=⟨_,rfl⟩;rw [<- h1] at c1 q1
 have hf:cmp false (.mk a []) env s0=s1:=by
  rw [vr (zW s0) k,h1]
 rw [hf];clear hf h1;refine FI PM Tryz.func57 Tryz.ntmps57 [(36,9,[],[],(lin [] [0,1,2,3,4,5,6,7,8])),(43,8,[],[],(lin [] [0,1,2,3,4,5,6,7])),(45,8,[],[],(lin [] [0,1,2,3,4,5,6,7])),(51,8,[],[],(lin [] [0,1,2,3,4,5,6,7])),(52,9,[],[],(lin [] [0,1,2,3,4,5,6,7,8])),(54,8,[],[],(lin [] [0,1,2,3,4,5,6,7]))] rfl rfl ?_
 (have hWf:=w4 @xO @hx @he @k;repeat' (first|refine zS ?_|refine zI ?_ ?_|refine zK hop ?_|refine zH c1 ?_|exact zF0|refine zD fun hb=>?_|exact zC|refine zT ?_|fail))
 all_goals first|rfl|skip
theorem xbF(T:List MType)(nodes:List MNode)(a:EI)(x:ET)(ix:SE T nodes x)(ox:okT x)(m:Nat)(env:List ByteArray)(s0:CS)(hA:At EI.node nodes m (.mk a [x]))(hb:BdS (.mk a [x]) env s0)(k:a.kind=5):FT 57 [.opt (spD T nodes s0),.s (.int .i64 m),.sl 1 (env.map stE)] (fun r o=>r=.tup []/\o=[.opt (spD T nodes (cmp false (.mk a [x]) env s0)),.un,.un]):=by
 have hx:=zk hA;have he:=yG a (idxs (m+1) ([x]:List ET));have hlt:=hA.lt;have hid:(idxs (m+1) ([x]:List ET)).map iE=[[.s (.int .i64 ((m+1:Nat):Int))]]:=rfl;rw [hid] at he
 have hop:FT 138 [.s (.int .i64 5)] (fun r _=>r=.s (.int .i64 0)):=zQ 5 (by omega)
 obtain ⟨b1,b2,b3⟩:=hb;simp only [size_mk,sizeL_cons,sizeL_nil] at b1 b2 b3
 have zx:=size_pos x;have c1:=V3 T nodes a x m hA ix ox 8 env s0 ⟨by omega,by omega,by (try simp only [List.length_append,List.length_cons,List.length_nil]);omega⟩
 have q1:=And.intro ((wi (xm false x ox) 8 [a.s]).lo env s0) (And.intro ((wi (xm false x ox) 8 [a.s]).hi env s0) ((wi (xm false x ox) 8 [a.s]).phi env s0));obtain ⟨s1,h1⟩:∃ q,q=funC 8 (cmp false x) [a.s] env s0:=⟨_,rfl⟩;rw [<- h1] at c1 q1
 have hf:cmp false (.mk a [x]) env s0=s1:=by
  rw [vk (zW s0) k,h1]
 rw [hf];clear hf h1;refine FI PM Tryz.func57 Tryz.ntmps57 [(36,9,[],[],(lin [] [0,1,2,3,4,5,6,7,8])),(43,8,[],[],(lin [] [0,1,2,3,4,5,6,7])),(45,8,[],[],(lin [] [0,1,2,3,4,5,6,7])),(51,8,[],[],(lin [] [0,1,2,3,4,5,6,7])),(52,9,[],[],(lin [] [0,1,2,3,4,5,6,7,8])),(54,8,[],[],(lin [] [0,1,2,3,4,5,6,7]))] rfl rfl ?_
 (have hWf:=w4 @xO @hx @he @k;repeat' (first|refine zS ?_|refine zI ?_ ?_|refine zK hop ?_|refine zH c1 ?_|exact zF0|refine zD fun hb=>?_|exact zC|refine zT ?_|fail))
 all_goals first|rfl|skip
theorem xbH(T:List MType)(nodes:List MNode)(a:EI)(b:EI)(x y:ET)(ix:SE T nodes x)(ox:okT x)(iy:SE T nodes y)(oy:okT y)(m:Nat)(env:List ByteArray)(s0:CS)(hA:At EI.node nodes m (.mk a [.mk b [x],y]))(hb:BdS (.mk a [.mk b [x],y]) env s0)(k:a.kind=8):FT 57 [.opt (spD T nodes s0),.s (.int .i64 m),.sl 1 (env.map stE)] (fun r o=>r=.tup []/\o=[.opt (spD T nodes (cmp false (.mk a [.mk b [x],y]) env s0)),.un,.un]):=by
 have hx:=zk hA;have he:=yG a (idxs (m+1) ([.mk b [x],y]:List ET));have hlt:=hA.lt;have hid:(idxs (m+1) ([.mk b [x],y]:List ET)).map iE=[[.s (.int .i64 ((m+1:Nat):Int))],[.s (.int .i64 ((m+1+(Arb.mk b [x]).size:Nat):Int))]]:=rfl;rw [hid] at he
 have hop:FT 138 [.s (.int .i64 8)] (fun r _=>r=.s (.int .i64 0)):=zQ 8 (by omega)
 obtain ⟨b1,b2,b3⟩:=hb;simp only [size_mk,sizeL_cons,sizeL_nil] at b1 b2 b3
 have zx:=size_pos x;have zy:=size_pos y;have c1:=V3 T nodes b x (m+1) hA.kids.head ix ox 9 (env++[a.s]) s0 ⟨by omega,by omega,by (try simp only [List.length_append,List.length_cons,List.length_nil]);omega⟩
 have q1:=And.intro ((wi (xm false x ox) 9 [b.s]).lo (env++[a.s]) s0) (And.intro ((wi (xm false x ox) 9 [b.s]).hi (env++[a.s]) s0) ((wi (xm false x ox) 9 [b.s]).phi (env++[a.s]) s0));obtain ⟨s1,h1⟩:∃ q,q=funC 9 (cmp false x) [b.s] (env++[a.s]) s0:=⟨_,rfl⟩;rw [<- h1] at c1 q1
 have c2:=iy (m+1+(Arb.mk b [x]).size) (env++[a.s]) s1 hA.kids.tail.head ⟨by omega,by omega,by rw [List.length_append];simp only [List.length_cons,List.length_nil];omega⟩
 have q2:=And.intro ((xm false y oy).lo (env++[a.s]) s1) (And.intro ((xm false y oy).hi (env++[a.s]) s1) ((xm false y oy).phi (env++[a.s]) s1));obtain ⟨s2,h2⟩:∃ q,q=cmp false y (env++[a.s]) s1:=⟨_,rfl⟩;rw [<- h2] at c2 q2
 have c3:=xQ T nodes s2 15 1 0 eS (by omega)
 have q3:(s2.emit ⟨15,1,0,eS⟩).ins.length=s2.ins.length+1/\(s2.emit ⟨15,1,0,eS⟩).pats.length=s2.pats.length:=⟨xk _ _,rfl⟩;obtain ⟨s3,h3⟩:∃ q,q=s2.emit ⟨15,1,0,eS⟩:=⟨_,rfl⟩;rw [<- h3] at c3 q3
 have hf:cmp false (.mk a [.mk b [x],y]) env s0=s3:=by
  rw [vn (zW s0) k,h3,h2,h1];unfold funC
  simp
 rw [hf];clear hf h1 h2 h3;refine FI PM Tryz.func57 Tryz.ntmps57 [(36,9,[],[],(lin [] [0,1,2,3,4,5,6,7,8])),(43,8,[],[],(lin [] [0,1,2,3,4,5,6,7])),(45,8,[],[],(lin [] [0,1,2,3,4,5,6,7])),(51,8,[],[],(lin [] [0,1,2,3,4,5,6,7])),(52,9,[],[],(lin [] [0,1,2,3,4,5,6,7,8])),(54,8,[],[],(lin [] [0,1,2,3,4,5,6,7]))] rfl rfl ?_
 (have hWf:=w4 @xO @hx @he @k;repeat' (first|refine zS ?_|refine zI ?_ ?_|refine zK hop ?_|((with_reducible apply xc);refine zG (wo env a.s (by omega)) ?_)|refine zU (wo env a.s (by omega)) ?_|refine zH c1 ?_|refine zH c2 ?_|refine zH c3 ?_|exact zF0|refine zD fun hb=>?_|exact zC|refine zT ?_|fail))
 all_goals first|rfl|skip
theorem exprS_seq(T:List MType)(nodes:List MNode)(a:EI)(x y:ET)(ix:SE T nodes x)(ox:okT x)(iy:SE T nodes y)(oy:okT y)(m:Nat)(env:List ByteArray)(s0:CS)(hA:At EI.node nodes m (.mk a [x,y]))(hb:BdS (.mk a [x,y]) env s0)(k:a.kind=19):FT 57 [.opt (spD T nodes s0),.s (.int .i64 m),.sl 1 (env.map stE)] (fun r o=>r=.tup []/\o=[.opt (spD T nodes (cmp false (.mk a [x,y]) env s0)),.un,.un]):=by
 have hx:=zk hA;have he:=yG a (idxs (m+1) ([x,y]:List ET));have hlt:=hA.lt;have hid:(idxs (m+1) ([x,y]:List ET)).map iE=[[.s (.int .i64 ((m+1:Nat):Int))],[.s (.int .i64 ((m+1+x.size:Nat):Int))]]:=rfl;rw [hid] at he
 have hop:FT 138 [.s (.int .i64 19)] (fun r _=>r=.s (.int .i64 0)):=zQ 19 (by omega)
 obtain ⟨b1,b2,b3⟩:=hb;simp only [size_mk,sizeL_cons,sizeL_nil] at b1 b2 b3
 have zx:=size_pos x;have zy:=size_pos y;have c1:=ix (m+1) env s0 hA.kids.head ⟨by omega,by omega,by omega⟩
 have q1:=And.intro ((xm false x ox).lo env s0) (And.intro ((xm false x ox).hi env s0) ((xm false x ox).phi env s0));obtain ⟨s1,h1⟩:∃ q,q=cmp false x env s0:=⟨_,rfl⟩;rw [<- h1] at c1 q1
 have c2:=xQ T nodes s1 25 0 0 eS (by omega)
 have q2:(s1.emit ⟨25,0,0,eS⟩).ins.length=s1.ins.length+1/\(s1.emit ⟨25,0,0,eS⟩).pats.length=s1.pats.length:=⟨xk _ _,rfl⟩;obtain ⟨s2,h2⟩:∃ q,q=s1.emit ⟨25,0,0,eS⟩:=⟨_,rfl⟩;rw [<- h2] at c2 q2
 have c3:=iy (m+1+x.size) env s2 hA.kids.tail.head ⟨by omega,by omega,by omega⟩
 have q3:=And.intro ((xm false y oy).lo env s2) (And.intro ((xm false y oy).hi env s2) ((xm false y oy).phi env s2));obtain ⟨s3,h3⟩:∃ q,q=cmp false y env s2:=⟨_,rfl⟩;rw [<- h3] at c3 q3
 have hf:cmp false (.mk a [x,y]) env s0=s3:=by
  rw [vo (zW s0) k,h3,h2,h1]
 rw [hf];clear hf h1 h2 h3;refine FI PM Tryz.func57 Tryz.ntmps57 [(36,9,[],[],(lin [] [0,1,2,3,4,5,6,7,8])),(43,8,[],[],(lin [] [0,1,2,3,4,5,6,7])),(45,8,[],[],(lin [] [0,1,2,3,4,5,6,7])),(51,8,[],[],(lin [] [0,1,2,3,4,5,6,7])),(52,9,[],[],(lin [] [0,1,2,3,4,5,6,7,8])),(54,8,[],[],(lin [] [0,1,2,3,4,5,6,7]))] rfl rfl ?_
 (have hWf:=w4 @xO @hx @he @k;repeat' (first|refine zS ?_|refine zI ?_ ?_|refine zK hop ?_|refine zH c1 ?_|refine zH c2 ?_|refine zH c3 ?_|exact zF0|refine zD fun hb=>?_|exact zC|refine zT ?_|fail))
 all_goals first|rfl|skip
theorem xbG(T:List MType)(nodes:List MNode)(a:EI)(x y:ET)(ix:SE T nodes x)(ox:okT x)(iy:SE T nodes y)(oy:okT y)(m:Nat)(env:List ByteArray)(s0:CS)(hA:At EI.node nodes m (.mk a [x,y]))(hb:BdS (.mk a [x,y]) env s0)(k:a.kind=7):FT 57 [.opt (spD T nodes s0),.s (.int .i64 m),.sl 1 (env.map stE)] (fun r o=>r=.tup []/\o=[.opt (spD T nodes (cmp false (.mk a [x,y]) env s0)),.un,.un]):=by
 have hx:=zk hA;have he:=yG a (idxs (m+1) ([x,y]:List ET));have hlt:=hA.lt;have hid:(idxs (m+1) ([x,y]:List ET)).map iE=[[.s (.int .i64 ((m+1:Nat):Int))],[.s (.int .i64 ((m+1+x.size:Nat):Int))]]:=rfl;rw [hid] at he
 have hop:FT 138 [.s (.int .i64 7)] (fun r _=>r=.s (.int .i64 0)):=zQ 7 (by omega)
 obtain ⟨b1,b2,b3⟩:=hb;simp only [size_mk,sizeL_cons,sizeL_nil] at b1 b2 b3
 have zx:=size_pos x;have zy:=size_pos y;have c1:=ix (m+1) env s0 hA.kids.head ⟨by omega,by omega,by omega⟩
 have q1:=And.intro ((xm false x ox).lo env s0) (And.intro ((xm false x ox).hi env s0) ((xm false x ox).phi env s0));obtain ⟨s1,h1⟩:∃ q,q=cmp false x env s0:=⟨_,rfl⟩;rw [<- h1] at c1 q1
 have c2:=xQ T nodes s1 14 0 0 eS (by omega)
 have q2:(s1.emit ⟨14,0,0,eS⟩).ins.length=s1.ins.length+1/\(s1.emit ⟨14,0,0,eS⟩).pats.length=s1.pats.length:=⟨xk _ _,rfl⟩;obtain ⟨s2,h2⟩:∃ q,q=s1.emit ⟨14,0,0,eS⟩:=⟨_,rfl⟩;rw [<- h2] at c2 q2
 have c3:=iy (m+1+x.size) (env++[a.s]) s2 hA.kids.tail.head ⟨by omega,by omega,by rw [List.length_append];simp only [List.length_cons,List.length_nil];omega⟩
 have q3:=And.intro ((xm false y oy).lo (env++[a.s]) s2) (And.intro ((xm false y oy).hi (env++[a.s]) s2) ((xm false y oy).phi (env++[a.s]) s2));obtain ⟨s3,h3⟩:∃ q,q=cmp false y (env++[a.s]) s2:=⟨_,rfl⟩;rw [<- h3] at c3 q3
 have c4:=xQ T nodes s3 15 1 0 eS (by omega)
 have q4:(s3.emit ⟨15,1,0,eS⟩).ins.length=s3.ins.length+1/\(s3.emit ⟨15,1,0,eS⟩).pats.length=s3.pats.length:=⟨xk _ _,rfl⟩;obtain ⟨s4,h4⟩:∃ q,q=s3.emit ⟨15,1,0,eS⟩:=⟨_,rfl⟩;rw [<- h4] at c4 q4
 have hf:cmp false (.mk a [x,y]) env s0=s4:=by
  rw [vl (zW s0) k,h4,h3,h2,h1]
 rw [hf];clear hf h1 h2 h3 h4;refine FI PM Tryz.func57 Tryz.ntmps57 [(36,9,[],[],(lin [] [0,1,2,3,4,5,6,7,8])),(43,8,[],[],(lin [] [0,1,2,3,4,5,6,7])),(45,8,[],[],(lin [] [0,1,2,3,4,5,6,7])),(51,8,[],[],(lin [] [0,1,2,3,4,5,6,7])),(52,9,[],[],(lin [] [0,1,2,3,4,5,6,7,8])),(54,8,[],[],(lin [] [0,1,2,3,4,5,6,7]))] rfl rfl ?_
 (have hWf:=w4 @xO @hx @he @k;repeat' (first|refine zS ?_|refine zI ?_ ?_|refine zK hop ?_|((with_reducible apply xc);refine zG (wo env a.s (by omega)) ?_)|refine zU (wo env a.s (by omega)) ?_|refine zH c1 ?_|refine zH c2 ?_|refine zH c3 ?_|refine zH c4 ?_|exact zF0|refine zD fun hb=>?_|exact zC|refine zT ?_|fail))
 all_goals first|rfl|skip
theorem exprS_if_(T:List MType)(nodes:List MNode)(a:EI)(x y z:ET)(ix:SE T nodes x)(ox:okT x)(iy:SE T nodes y)(oy:okT y)(iz:SE T nodes z)(oz:okT z)(m:Nat)(env:List ByteArray)(s0:CS)(hA:At EI.node nodes m (.mk a [x,y,z]))(hb:BdS (.mk a [x,y,z]) env s0)(k:a.kind=9):FT 57 [.opt (spD T nodes s0),.s (.int .i64 m),.sl 1 (env.map stE)] (fun r o=>r=.tup []/\o=[.opt (spD T nodes (cmp false (.mk a [x,y,z]) env s0)),.un,.un]):=by
 have hx:=zk hA;have he:=yG a (idxs (m+1) ([x,y,z]:List ET));have hlt:=hA.lt;have hid:(idxs (m+1) ([x,y,z]:List ET)).map iE=[[.s (.int .i64 ((m+1:Nat):Int))],[.s (.int .i64 ((m+1+x.size:Nat):Int))],[.s (.int .i64 ((m+1+x.size+y.size:Nat):Int))]]:=rfl;rw [hid] at he
 have hop:FT 138 [.s (.int .i64 9)] (fun r _=>r=.s (.int .i64 0)):=zQ 9 (by omega)
 obtain ⟨b1,b2,b3⟩:=hb;simp only [size_mk,sizeL_cons,sizeL_nil] at b1 b2 b3
 have zx:=size_pos x;have zy:=size_pos y;have zz:=size_pos z;have c1:=ix (m+1) env s0 hA.kids.head ⟨by omega,by omega,by omega⟩
 have q1:=And.intro ((xm false x ox).lo env s0) (And.intro ((xm false x ox).hi env s0) ((xm false x ox).phi env s0));obtain ⟨s1,h1⟩:∃ q,q=cmp false x env s0:=⟨_,rfl⟩;rw [<- h1] at c1 q1
 have c2:=xQ T nodes s1 13 0 0 eS (by omega)
 have q2:(s1.emit ⟨13,0,0,eS⟩).ins.length=s1.ins.length+1/\(s1.emit ⟨13,0,0,eS⟩).pats.length=s1.pats.length:=⟨xk _ _,rfl⟩;obtain ⟨s2,h2⟩:∃ q,q=s1.emit ⟨13,0,0,eS⟩:=⟨_,rfl⟩;rw [<- h2] at c2 q2
 have c3:=iy (m+1+x.size) env s2 hA.kids.tail.head ⟨by omega,by omega,by omega⟩
 have q3:=And.intro ((xm false y oy).lo env s2) (And.intro ((xm false y oy).hi env s2) ((xm false y oy).phi env s2));obtain ⟨s3,h3⟩:∃ q,q=cmp false y env s2:=⟨_,rfl⟩;rw [<- h3] at c3 q3
 have c4:=xQ T nodes s3 12 0 0 eS (by omega)
 have q4:(s3.emit ⟨12,0,0,eS⟩).ins.length=s3.ins.length+1/\(s3.emit ⟨12,0,0,eS⟩).pats.length=s3.pats.length:=⟨xk _ _,rfl⟩;obtain ⟨s4,h4⟩:∃ q,q=s3.emit ⟨12,0,0,eS⟩:=⟨_,rfl⟩;rw [<- h4] at c4 q4
 have c5:=wO T nodes s4;have q5:(s4.here s1.ins.length).ins.length=s4.ins.length/\(s4.here s1.ins.length).pats.length=s4.pats.length:=⟨yc _ _,rfl⟩;have hi5:s1.ins.length<s4.ins.length:=by omega
 have hy5:=xi MIns.enc s4.ins s1.ins.length hi5;have hz5:=MIns.enc_eq s4.ins[s1.ins.length];have hw5:=Xa hi5;have hp5:(s4.here s1.ins.length).pats=s4.pats:=rfl;have hl5:(s4.here s1.ins.length).lost=s4.lost:=rfl;have hn5:=yc s4 s1.ins.length;obtain ⟨s5,h5⟩:∃ q,q=s4.here s1.ins.length:=⟨_,rfl⟩;rw [<- h5] at q5 hw5 hp5 hl5 hn5
 have c6:=iz (m+1+x.size+y.size) env s5 hA.kids.tail.tail.head ⟨by omega,by omega,by omega⟩
 have q6:=And.intro ((xm false z oz).lo env s5) (And.intro ((xm false z oz).hi env s5) ((xm false z oz).phi env s5));obtain ⟨s6,h6⟩:∃ q,q=cmp false z env s5:=⟨_,rfl⟩;rw [<- h6] at c6 q6
 have c7:=wO T nodes s6;have q7:(s6.here s3.ins.length).ins.length=s6.ins.length/\(s6.here s3.ins.length).pats.length=s6.pats.length:=⟨yc _ _,rfl⟩;have hi7:s3.ins.length<s6.ins.length:=by omega
 have hy7:=xi MIns.enc s6.ins s3.ins.length hi7;have hz7:=MIns.enc_eq s6.ins[s3.ins.length];have hw7:=Xa hi7;have hp7:(s6.here s3.ins.length).pats=s6.pats:=rfl;have hl7:(s6.here s3.ins.length).lost=s6.lost:=rfl;have hn7:=yc s6 s3.ins.length;obtain ⟨s7,h7⟩:∃ q,q=s6.here s3.ins.length:=⟨_,rfl⟩;rw [<- h7] at q7 hw7 hp7 hl7 hn7
 have hf:cmp false (.mk a [x,y,z]) env s0=s7:=by
  rw [Xu (zW s0) k,h7,h6,h5,h4,h3,h2,h1];rfl
 rw [xO T nodes s5,hp5,hl5] at c6
 rw [hf];clear hf h1 h2 h3 h4 h5 h6 h7;refine FI PM Tryz.func57 Tryz.ntmps57 [(36,9,[],[],(lin [] [0,1,2,3,4,5,6,7,8])),(43,8,[],[],(lin [] [0,1,2,3,4,5,6,7])),(45,8,[],[],(lin [] [0,1,2,3,4,5,6,7])),(51,8,[],[],(lin [] [0,1,2,3,4,5,6,7])),(52,9,[],[],(lin [] [0,1,2,3,4,5,6,7,8])),(54,8,[],[],(lin [] [0,1,2,3,4,5,6,7]))] rfl rfl ?_
 (have hWf:=w10 @xO @hx @he @k @hy5 @hz5 @hw5 @hp5 @hl5 (ai @hn5<|ai @hy7<|ai @hz7<|ai @hw7<|ai @hp7<|ai @hl7<|@hn7);repeat' (first|refine zS ?_|refine zI ?_ ?_|refine zK hop ?_|refine zH c1 ?_|refine zH c2 ?_|refine zH c3 ?_|refine zH c4 ?_|refine zK c5 ?_|refine zH c6 ?_|refine zK c7 ?_|exact zF0|refine zD fun hb=>?_|exact zC|refine zT ?_|fail))
 all_goals first|rfl|skip
theorem xbI(T:List MType)(nodes:List MNode)(a:EI)(x y:ET)(ix:SE T nodes x)(ox:okT x)(iy:SE T nodes y)(oy:okT y)(m:Nat)(env:List ByteArray)(s0:CS)(hA:At EI.node nodes m (.mk a [x,y]))(hb:BdS (.mk a [x,y]) env s0)(k:a.kind=15):FT 57 [.opt (spD T nodes s0),.s (.int .i64 m),.sl 1 (env.map stE)] (fun r o=>r=.tup []/\o=[.opt (spD T nodes (cmp false (.mk a [x,y]) env s0)),.un,.un]):=by
 have hx:=zk hA;have he:=yG a (idxs (m+1) ([x,y]:List ET));have hlt:=hA.lt;have hid:(idxs (m+1) ([x,y]:List ET)).map iE=[[.s (.int .i64 ((m+1:Nat):Int))],[.s (.int .i64 ((m+1+x.size:Nat):Int))]]:=rfl;rw [hid] at he
 have hop:FT 138 [.s (.int .i64 15)] (fun r _=>r=.s (.int .i64 0)):=zQ 15 (by omega)
 obtain ⟨b1,b2,b3⟩:=hb;simp only [size_mk,sizeL_cons,sizeL_nil] at b1 b2 b3
 have zx:=size_pos x;have zy:=size_pos y;have c1:=xQ T nodes s0 18 0 0 eS (by omega)
 have q1:(s0.emit ⟨18,0,0,eS⟩).ins.length=s0.ins.length+1/\(s0.emit ⟨18,0,0,eS⟩).pats.length=s0.pats.length:=⟨xk _ _,rfl⟩;obtain ⟨s1,h1⟩:∃ q,q=s0.emit ⟨18,0,0,eS⟩:=⟨_,rfl⟩;rw [<- h1] at c1 q1
 have c2:=ix (m+1) env s1 hA.kids.head ⟨by omega,by omega,by omega⟩
 have q2:=And.intro ((xm false x ox).lo env s1) (And.intro ((xm false x ox).hi env s1) ((xm false x ox).phi env s1));obtain ⟨s2,h2⟩:∃ q,q=cmp false x env s1:=⟨_,rfl⟩;rw [<- h2] at c2 q2
 have c3:=xQ T nodes s2 19 0 0 eS (by omega)
 have q3:(s2.emit ⟨19,0,0,eS⟩).ins.length=s2.ins.length+1/\(s2.emit ⟨19,0,0,eS⟩).pats.length=s2.pats.length:=⟨xk _ _,rfl⟩;obtain ⟨s3,h3⟩:∃ q,q=s2.emit ⟨19,0,0,eS⟩:=⟨_,rfl⟩;rw [<- h3] at c3 q3
 have c4:=xQ T nodes s3 12 0 0 eS (by omega)
 have q4:(s3.emit ⟨12,0,0,eS⟩).ins.length=s3.ins.length+1/\(s3.emit ⟨12,0,0,eS⟩).pats.length=s3.pats.length:=⟨xk _ _,rfl⟩;obtain ⟨s4,h4⟩:∃ q,q=s3.emit ⟨12,0,0,eS⟩:=⟨_,rfl⟩;rw [<- h4] at c4 q4
 have c5:=wO T nodes s4;have q5:(s4.here s0.ins.length).ins.length=s4.ins.length/\(s4.here s0.ins.length).pats.length=s4.pats.length:=⟨yc _ _,rfl⟩;have hi5:s0.ins.length<s4.ins.length:=by omega
 have hy5:=xi MIns.enc s4.ins s0.ins.length hi5;have hz5:=MIns.enc_eq s4.ins[s0.ins.length];have hw5:=Xa hi5;have hp5:(s4.here s0.ins.length).pats=s4.pats:=rfl;have hl5:(s4.here s0.ins.length).lost=s4.lost:=rfl;have hn5:=yc s4 s0.ins.length;obtain ⟨s5,h5⟩:∃ q,q=s4.here s0.ins.length:=⟨_,rfl⟩;rw [<- h5] at q5 hw5 hp5 hl5 hn5
 have c6:=iy (m+1+x.size) (env++[a.s]) s5 hA.kids.tail.head ⟨by omega,by omega,by rw [List.length_append];simp only [List.length_cons,List.length_nil];omega⟩
 have q6:=And.intro ((xm false y oy).lo (env++[a.s]) s5) (And.intro ((xm false y oy).hi (env++[a.s]) s5) ((xm false y oy).phi (env++[a.s]) s5));obtain ⟨s6,h6⟩:∃ q,q=cmp false y (env++[a.s]) s5:=⟨_,rfl⟩;rw [<- h6] at c6 q6
 have c7:=xQ T nodes s6 15 1 0 eS (by omega)
 have q7:(s6.emit ⟨15,1,0,eS⟩).ins.length=s6.ins.length+1/\(s6.emit ⟨15,1,0,eS⟩).pats.length=s6.pats.length:=⟨xk _ _,rfl⟩;obtain ⟨s7,h7⟩:∃ q,q=s6.emit ⟨15,1,0,eS⟩:=⟨_,rfl⟩;rw [<- h7] at c7 q7
 have c8:=wO T nodes s7;have q8:(s7.here s3.ins.length).ins.length=s7.ins.length/\(s7.here s3.ins.length).pats.length=s7.pats.length:=⟨yc _ _,rfl⟩;have hi8:s3.ins.length<s7.ins.length:=by omega
 have hy8:=xi MIns.enc s7.ins s3.ins.length hi8;have hz8:=MIns.enc_eq s7.ins[s3.ins.length];have hw8:=Xa hi8;have hp8:(s7.here s3.ins.length).pats=s7.pats:=rfl;have hl8:(s7.here s3.ins.length).lost=s7.lost:=rfl;have hn8:=yc s7 s3.ins.length;obtain ⟨s8,h8⟩:∃ q,q=s7.here s3.ins.length:=⟨_,rfl⟩;rw [<- h8] at q8 hw8 hp8 hl8 hn8
 have hf:cmp false (.mk a [x,y]) env s0=s8:=by
  rw [vq (zW s0) k,h8,h7,h6,h5,h4,h3,h2,h1];rfl
 rw [xO T nodes s5,hp5,hl5] at c6
 rw [hf];clear hf h1 h2 h3 h4 h5 h6 h7 h8;refine FI PM Tryz.func57 Tryz.ntmps57 [(36,9,[],[],(lin [] [0,1,2,3,4,5,6,7,8])),(43,8,[],[],(lin [] [0,1,2,3,4,5,6,7])),(45,8,[],[],(lin [] [0,1,2,3,4,5,6,7])),(51,8,[],[],(lin [] [0,1,2,3,4,5,6,7])),(52,9,[],[],(lin [] [0,1,2,3,4,5,6,7,8])),(54,8,[],[],(lin [] [0,1,2,3,4,5,6,7]))] rfl rfl ?_
 (have hWf:=w10 @xO @hx @he @k @hy5 @hz5 @hw5 @hp5 @hl5 (ai @hn5<|ai @hy8<|ai @hz8<|ai @hw8<|ai @hp8<|ai @hl8<|@hn8);repeat' (first|refine zS ?_|refine zI ?_ ?_|refine zK hop ?_|((with_reducible apply xc);refine zG (wo env a.s (by omega)) ?_)|refine zU (wo env a.s (by omega)) ?_|refine zH c1 ?_|refine zH c2 ?_|refine zH c3 ?_|refine zH c4 ?_|refine zK c5 ?_|refine zH c6 ?_|refine zH c7 ?_|refine zK c8 ?_|exact zF0|refine zD fun hb=>?_|exact zC|refine zT ?_|fail))
 all_goals first|rfl|skip
end
end Go.Proofs.YtgcdbmcoendcdaaGreat
