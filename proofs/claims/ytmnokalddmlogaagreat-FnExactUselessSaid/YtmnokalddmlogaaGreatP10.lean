/- Parts of the proof. -/
import Derived.Test.YtmnokalddmlogaaGreatP9
set_option linter.unusedSimpArgs false
set_option linter.unusedVariables false
set_option maxRecDepth 100000
set_option maxHeartbeats 8000000
namespace Go.Proofs.YtmnokalddmlogaaGreat
section
attribute [local go_sem] List.length_map
open Go.RowKit Arb
structure Rk(rows:List (List PT))(row:List PT):Prop where
 w:∀ r∈rows,r.length=row.length
 k:∀ r∈rows,∀ q∈r,k2 q
 kr:∀ q∈row,k2 q
 n:rows.length<=3000000
theorem XD{q:PT}(h:k2 q):q.kids.length<=2:=by obtain ⟨a,l,rfl⟩:∃ a l,q=.mk a l:=⟨_,_,Arb.eta _⟩;exact h.root
theorem k2_kid{q:PT}(h:k2 q):∀ x∈q.kids,k2 x:=by obtain ⟨a,l,rfl⟩:∃ a l,q=.mk a l:=⟨_,_,Arb.eta _⟩;exact fun x hx=>h.kid x hx
theorem VW:k2 yh:=All.mk (by simp) (by simp)
theorem UA(n:Nat):∀ q∈xi n,k2 q:=fun q h=>by rw [(List.mem_replicate.1 h).2];exact VW
theorem Xo(n:Nat):(xi n).length=n:=List.length_replicate
theorem k2_app{a b:List PT}(h:∀ q∈a,k2 q)(h':∀ q∈b,k2 q):∀ q∈a++b,k2 q:=fun q m=>(List.mem_append.1 m).elim (h q) (h' q)
theorem openR_mem{h q:PT}{r r':List PT}(e:uc h (q::r)=some r')(hq:k2 q)(hr:∀ x∈r,k2 x):r'.length=h.kids.length+r.length/\∀ x∈r',k2 x:=by
 unfold uc at e
 simp only at e
 split at e
 ·obtain rfl:=Option.some.inj e
  exact ⟨by rw [List.length_append,Xo],k2_app (UA _) hr⟩
 ·split at e
  ·rename_i k
   obtain rfl:=Option.some.inj e;unfold hdEq at k
   simp only [Bool.and_eq_true,beq_iff_eq] at k
   exact ⟨by rw [List.length_append];omega,k2_app (k2_kid hq) hr⟩
  ·cases e
theorem Rk.open{rows:List (List PT)}{q:PT}{r ks:List PT}(h:Rk rows (q::r))(f:PT)(hl:ks.length=f.kids.length)(hk:∀ x∈ks,k2 x):Rk (xK rows f) (ks++r):=by
 have key:∀ s∈xK rows f,s.length=f.kids.length+r.length/\∀ x∈s,k2 x:=fun s hs=>by
  obtain ⟨s0,m,e⟩:=List.mem_filterMap.1 hs;cases s0 with
  | nil=>cases e
  | cons q0 r0=>
   have hw:=h.w _ m;rw [List.length_cons,List.length_cons] at hw
   have:=openR_mem e (h.k _ m q0 (.head _)) (fun x hx=>h.k _ m x (.tail _ hx))
   exact ⟨by rw [this.1];omega,this.2⟩
 exact ⟨fun s hs=>by rw [(key s hs).1,List.length_append,hl],fun s hs=>(key s hs).2,k2_app hk fun x hx=>h.kr x (.tail _ hx),Nat.le_trans (List.length_filterMap_le _ _) h.n⟩
theorem Rk.other{rows:List (List PT)}{q:PT}{r:List PT}(h:Rk rows (q::r)):Rk (xO rows) r:=by
 have key:∀ s∈xO rows,s.length=r.length/\∀ x∈s,k2 x:=fun s hs=>by
  obtain ⟨s0,m,e⟩:=List.mem_filterMap.1 hs;cases s0 with
  | nil=>cases e
  | cons q0 r0=>
   have hw:=h.w _ m;rw [List.length_cons,List.length_cons] at hw
   unfold yX at e
   simp only at e
   split at e
   ·obtain rfl:=Option.some.inj e
    exact ⟨by omega,fun x hx=>h.k _ m x (.tail _ hx)⟩
   ·cases e
 exact ⟨fun s hs=>(key s hs).1,fun s hs=>(key s hs).2,fun x hx=>h.kr x (.tail _ hx),Nat.le_trans (List.length_filterMap_le _ _) h.n⟩
theorem k2_forms{ts:List MType}{s:ByteArray}:∀ f∈xF ts s,k2 f:=fun f hf=>by
 rw [QO] at hf
 obtain ⟨q,-,rfl⟩:=List.mem_map.1 hf;unfold conP;split
 ·exact All.mk (by simp) fun x hx=>by rw [List.mem_singleton] at hx;rw [hx];exact VW
 ·exact All.mk (by simp) (by simp)
theorem k2_all{ts:List MType}{rows:List (List PT)}:∀ {more:List (List PT)},(∀ r∈more,∀ q∈r,k2 q)->∀ f∈allM ts rows more,k2 f
 | [],h,f,hf=>by rw [allM] at hf;cases hf
 | []::_,h,f,hf=>by rw [allM] at hf;cases hf
 | (q::r)::more,h,f,hf=>by
  have hq:=h _ (.head _) q (.head _)
  by_cases k:q.a.kind=6\/q.a.kind=5
  ·rw [VF k,List.mem_singleton] at hf
   rw [hf];exact All.mk (by rw [Xo];exact XD hq) (UA _)
  ·by_cases k4:q.a.kind=4
   ·rw [allM_4 k4] at hf
    unfold headF at hf
    split at hf
    ·exact k2_forms f hf
    ·cases hf
   ·rw [allM_n (by omega) (by omega) k4] at hf
    exact k2_all (fun r' hr'=>h r' (.tail _ hr')) f hf
theorem xaM(ts:List MType)(rows:List (List PT))(hc:∀ t∈ts,t.cons.length<=1048576):∀ more:List (List PT),(allM ts rows more).length<=1048576
 | []=>by rw [allM];simp
 | []::_=>by rw [allM];simp
 | (q::r)::more=>by
  by_cases k:q.a.kind=6\/q.a.kind=5
  ·rw [VF k];simp
  ·by_cases k4:q.a.kind=4
   ·rw [allM_4 k4];unfold headF;split
    ·exact Vo ts _ hc
    ·simp
   ·rw [allM_n (by omega) (by omega) k4];exact xaM ts rows hc more
theorem any_at{α:Type}{p:α->Bool}{l:List α}{k:Nat}(h:k<l.length)(hp:p l[k]=true):l.any p=true:=List.any_eq_true.2 ⟨_,List.getElem_mem h,hp⟩
theorem Xz(ts:List MType)(hl:ts.length<=1048576)(hc:∀ t∈ts,t.cons.length<=1048576):∀ (n:Nat) (rows:List (List PT)) (row:List PT),n<=3000000->2*(x5 rows+xw row)+row.length<n->Rk rows row->FT 62 [.pt [.sl 3 (ts.map MType.enc)],.sl 1 (rwsE rows),.sl 1 (row.map pxS)] (fun r _=>r=.s (.bool (useM ts n rows row)))
 | 0,_,_,_,h,_=>absurd h (Nat.not_lt_zero _)
 | n+1,rows,[],hn,hm,R=>by
  have hll:=y6 rows;have e:((rows.length:Int)==0)=rows.isEmpty:=by cases rows with
   | nil=>rfl
   | cons a l=>show (((l.length+1:Nat):Int)==0)=false;simpa using (by omega:((l.length:Int)+1≠0))
  rw [useM];refine FI PM Tryz.func62 Tryz.ntmps62 [(4,16,[],[],(lin [] [0,1,2,3,4,5,6,7,8,9,10,11,12,13,14,15])),(7,5,[],[],(lin [] [0,1,2,3,4])),(11,14,[],[],(lin [] [0,1,2,3,4,5,6,7,8,9,10,11,12,13]))] rfl rfl ?_
  (have hWf:=w1 @hll;repeat' (first|refine zS ?_|refine zI ?_ ?_|exact zF0|refine zD fun hb=>?_|exact zC|refine zT ?_|fail))
  exact sB e
 | n+1,rows,q::r,hn,hm,R=>by
  have hll:=y6 rows;have hne:∀ s∈rows,s≠[]:=fun s hs e=>by have:=R.w s hs;rw [e] at this;cases this
  have hwd:∀ s∈rows,s.length<=3000000:=fun s hs=>by rw [R.w s hs];omega
  have hkk:∀ x∈rows.flatten,x.kids.length<=3000000:=fun x hx=>by
   obtain ⟨s,hs,hx⟩:=List.mem_flatten.1 hx;have:=XD (R.k s hs x hx);omega
  have hcw:=Ul q;cases ew:isW q with
  | false=>
   have hq2:=XD (R.kr q (.head _));have hqa:∀ x∈q::rows.flatten,x.kids.length<=3000000:=fun x hx=>by
    rcases List.mem_cons.1 hx with e|hx
    ·rw [e];omega
    ·exact hkk x hx
   have hop:=xaZ rows q R.n hne hwd hqa;have hh:=ZO ew;have hle:=xbw rows q;rw [xw,List.length_cons] at hm
   have hcat:=Va q.kids r (by omega)
   have ih:=Xz ts hl hc n (xK rows q) (q.kids++r) (by omega) (by rw [z4,List.length_append];omega) (R.open q rfl (k2_kid (R.kr q (.head _))))
   rw [useM,ew,if_neg (by simp)]
   rw [ew] at hcw
   obtain ⟨a,l,rfl⟩:∃ a l,q=.mk a l:=⟨_,_,Arb.eta _⟩;rw [xX] at hcw hop
   rw [List.map_cons,yK];rw [show (Arb.mk a l:PT).kids=l from rfl] at ih hcat ⊢
   refine FI PM Tryz.func62 Tryz.ntmps62 [(4,16,[],[],(lin [] [0,1,2,3,4,5,6,7,8,9,10,11,12,13,14,15])),(7,5,[],[],(lin [] [0,1,2,3,4])),(11,14,[],[],(lin [] [0,1,2,3,4,5,6,7,8,9,10,11,12,13]))] rfl rfl ?_
   (have hWf:=w1 @hll;repeat' (first|refine zS ?_|refine zI ?_ ?_|refine zK hcat ?_|refine zK hop ?_|refine zK ih ?_|refine zK hcw ?_|exact zF0|refine zD fun hb=>?_|exact zC|refine zT ?_|fail))
  | true=>
   rw [ew] at hcw
   rw [xw,List.length_cons] at hm
   obtain ⟨A,hA⟩:∃ A,A=allM ts rows rows:=⟨_,rfl⟩;have hall:=c_all ts rows hl hc hne R.n hkk;have hAl:A.length<=1048576:=by rw [hA];exact xaM ts rows hc rows
   have hAk:∀ f∈A,k2 f:=by rw [hA];exact k2_all R.k
   have hu:useM ts (n+1) rows (q::r)=if A.length=0 then useM ts n (xO rows) r else A.any fun f=>useM ts n (xK rows f) (xi f.kids.length++r):=by rw [useM,ew,if_pos rfl,hA]
   rw [hu];rw [<- hA] at hall
   by_cases hz:A.length=0
   ·obtain rfl:A=[]:=List.length_eq_zero_iff.1 hz
    have hot:=c_others rows R.n hne;have hle:=Q8 rows;have ih:=Xz ts hl hc n (xO rows) r (by omega) (by omega) R.other
    rw [if_pos hz];clear hu;obtain ⟨a,l,rfl⟩:∃ a l,q=.mk a l:=⟨_,_,Arb.eta _⟩;rw [xX] at hcw
    rw [List.map_cons,yK];refine FI PM Tryz.func62 Tryz.ntmps62 [(4,16,[],[],(lin [] [0,1,2,3,4,5,6,7,8,9,10,11,12,13,14,15])),(7,5,[],[],(lin [] [0,1,2,3,4])),(11,14,[],[],(lin [] [0,1,2,3,4,5,6,7,8,9,10,11,12,13]))] rfl rfl ?_
    (have hWf:=w1 @hll;repeat' (first|refine zS ?_|refine zI ?_ ?_|refine zK hall ?_|refine zK hot ?_|refine zK ih ?_|refine zK hcw ?_|exact zF0|refine zD fun hb=>?_|exact zC|refine zT ?_|fail))
    all_goals trace_state
   ·rw [if_neg hz]
    have hz':((A.length:Int)==0)=false:=by simpa using hz
    obtain ⟨q0,r0,m0,w0⟩:=Qo (ts:=ts) (rows:=rows) (more:=rows) (by rw [<- hA];intro e;rw [e] at hz;exact hz rfl)
    clear hu;obtain ⟨a,l,rfl⟩:∃ a l,q=.mk a l:=⟨_,_,Arb.eta _⟩;rw [xX] at hcw
    rw [List.map_cons,yK];refine FI PM Tryz.func62 Tryz.ntmps62 [(4,16,[],[],(lin [] [0,1,2,3,4,5,6,7,8,9,10,11,12,13,14,15])),(7,5,[],[],(lin [] [0,1,2,3,4])),(11,14,[],[],(lin [] [0,1,2,3,4,5,6,7,8,9,10,11,12,13]))] rfl rfl ?_
    (have hWf:=w2 @hll @hz';repeat' (first|refine zS ?_|refine zI ?_ ?_|refine zK hall ?_|refine zK hcw ?_|exact zF0|refine zD fun hb=>?_|exact zC|refine zT ?_|fail))
    refine xd (fun m σ=>∃ j:Nat,j<=A.length/\m=A.length - j/\(∀ f∈A.take j,useM ts n (xK rows f) (xi f.kids.length++r)=false)/\σ.t 0=.pt [.sl 3 (ts.map MType.enc)]/\σ.t 1=.sl 1 (rwsE rows)/\σ.t 2=.sl 1 ([.pt [.s (.int .i64 a.kind),.s (.int .i64 a.n),.s (.string a.s),.sl 1 (l.map pxS)]]::r.map pxS)/\σ.t 52=.sl 1 (A.map pxS)/\σ.t 53=.s (.int .i64 A.length)/\σ.t 54=.s (.int .i64 j)) A.length ⟨0,by omega,by omega,(by simp),?_⟩ ?_
    ·simp only [go_sem,simprocAttr,hll,Int.natCast_zero,List.length_map]
     all_goals trace_state
    ·rintro m σ ⟨j,hj,rfl,hno,g0,g1,g2,g52,g53,g54⟩ K' hK
     by_cases hjl:j<A.length
     ·have hy:=xb pxS A j hjl
      obtain ⟨f,hf⟩:∃ f,f=A[j]:=⟨_,rfl⟩;have hfm:f∈A:=by rw [hf];exact List.getElem_mem hjl
      have hf2:=XD (hAk f hfm);rw [<- hf] at hy
      have hqa:∀ x∈f::rows.flatten,x.kids.length<=3000000:=fun x hx=>by
       rcases List.mem_cons.1 hx with e|hx
       ·rw [e];omega
       ·exact hkk x hx
      have hop:=xaZ rows f R.n hne hwd hqa;have hlt:=xbx f w0 m0;have hwi:=Yw f.kids.length (by omega)
      have hwl:=Xo f.kids.length;have hhw:=vK f.kids.length;have hcat:=Va (xi f.kids.length) r (by omega)
      have ih:=Xz ts hl hc n (xK rows f) (xi f.kids.length++r) (by omega) (by rw [z4,List.length_append];omega) (R.open f hwl (UA _))
      have hP:∀ b,useM ts n (xK rows f) (xi f.kids.length++r)=b->(fun f=>useM ts n (xK rows f) (xi f.kids.length++r)) A[j]=b:=fun b e=>by rw [<- hf];exact e
      cases hu:useM ts n (xK rows f) (xi f.kids.length++r) with
      | true=>
       have hany:=any_at (p:=fun f=>useM ts n (xK rows f) (xi f.kids.length++r)) hjl (hP _ hu)
       rw [hany];rw [hu] at ih
       clear hf hfm hno hP hu;obtain ⟨b,m,rfl⟩:∃ b m,f=.mk b m:=⟨_,_,Arb.eta _⟩;rw [yK] at hy
       rw [xX] at hop
       rw [show (Arb.mk b m:PT).kids=m from rfl] at hwi hcat ih
       (have hWf:=w7 @g0 @g1 @g2 @g52 @g53 @g54 @hy;repeat' (first|refine zS ?_|refine zI ?_ ?_|refine zK hop ?_|refine zK hwi ?_|refine zK hcat ?_|refine zK ih ?_|exact zF0|refine zD fun hb=>?_|exact zC|refine zT ?_|fail))
       all_goals trace_state
      | false=>
       have hno':=uf (p:=fun f=>useM ts n (xK rows f) (xi f.kids.length++r)) hjl hno (hP _ hu)
       rw [hu] at ih
       clear hf hfm hno hP hu;obtain ⟨b,m,rfl⟩:∃ b m,f=.mk b m:=⟨_,_,Arb.eta _⟩;rw [yK] at hy
       rw [xX] at hop
       rw [show (Arb.mk b m:PT).kids=m from rfl] at hwi hcat ih
       (have hWf:=w7 @g0 @g1 @g2 @g52 @g53 @g54 @hy;repeat' (first|refine zS ?_|refine zI ?_ ?_|refine zK hop ?_|refine zK hwi ?_|refine zK hcat ?_|refine zK ih ?_|exact zF0|refine zD fun hb=>?_|exact zC|refine zT ?_|fail))
       refine hK (A.length - (j+1)) _ (by omega) ⟨j+1,by omega,rfl,hno',?_⟩
       simp only [go_sem,simprocAttr,g0,g1,g2,g52,g53,g54,Int.natCast_succ]
       all_goals trace_state
     ·obtain rfl:j=A.length:=by omega
      rw [List.take_length] at hno
      have hany:(A.any fun f=>useM ts n (xK rows f) (xi f.kids.length++r))=false:=List.any_eq_false.2 fun f hf=>by rw [hno f hf];simp
      rw [hany]
      (have hWf:=w6 @g0 @g1 @g2 @g52 @g53 @g54;repeat' (first|refine zS ?_|refine zI ?_ ?_|exact zF0|refine zD fun hb=>?_|exact zC|refine zT ?_|fail))
      all_goals trace_state
end
section
open Go.RowKit
theorem c_bindO(T Nn:List (List D))(n0 n1 n2:Int)(l:List SubM)(v:Int)(u:List TyI)(hl:l.length<=3000000)(hu:u.length<=1000000)(hs:∀ s∈l,s.ty.length<=1000000/\(putX [⟨v,u⟩] s.ty).length<=1000000000) :
  FT 150 [.opa 2 [.sl 3 T,.sl 6 Nn,.osl 160 2 (l.map SubM.enc),.s (.int .i64 n0),.s (.int .i64 n1),.s (.int .i64 n2)],.s (.int .i64 v),.sl 3 (u.map TyI.enc)] (fun r o=>r=.s (.int .i64 (xB l v u).2)/\o=[.opa 2 [.sl 3 T,.sl 6 Nn,.osl 160 2 ((xB l v u).1.map SubM.enc),.s (.int .i64 n0),.s (.int .i64 n1),.s (.int .i64 n2)],.un,.un]):=by
 by_cases hv:v∈xp u
 ·have hd:decide (v∈xp u)=true:=decide_eq_true hv
  have hbm:xB l v u=(l,3):=by unfold xB;rw [if_pos hv]
  rw [hbm];refine FI PM Tryz.func150 Tryz.ntmps150 [] rfl rfl ?_
  (have hWf:=w1 @hd;repeat' (first|refine zS ?_|refine zI ?_ ?_|((with_reducible apply xc);refine zG (vr u (by omega)) ?_)|refine zU (vr u (by omega)) ?_|refine zK (zQ (xp u) v) ?_|exact zF0|refine zD fun hb=>?_|exact zC|refine zT ?_|fail))
 ·have hd:decide (v∈xp u)=false:=decide_eq_false hv
  have hbm:xB l v u=(xv l v u,if (decide (200<u.length)||bigU (xE l v u))=true then 4 else 0):=by unfold xB;rw [if_neg hv]
  rw [hbm];refine FI PM Tryz.func150 Tryz.ntmps150 [] rfl rfl ?_
  (have hWf:=w1 @hd;repeat' (first|refine zS ?_|refine zI ?_ ?_|((with_reducible apply xc);refine zG (vr u (by omega)) ?_)|refine zU (vr u (by omega)) ?_|refine zK (zQ (xp u) v) ?_|exact zF0|refine zD fun hb=>?_|exact zC|refine zT ?_|fail))
  refine vQ (y8 21 (.arr 160 2 [[.s (.int .i64 v),.sl 3 (u.map TyI.enc)]]) (by simp only [go_sem,simprocAttr]) rfl (xj ?_))
  simp only [go_sem,simprocAttr];refine xd (fun n σ=>∃ k:Nat,k<=l.length/\n=l.length - k/\σ.t 0=.bx 900000 2/\σ.t 1=.s (.int .i64 v)/\σ.t 7=.sl 2 [[.s (.int .i64 v),.sl 3 (u.map TyI.enc)]]/\σ.t 8=.s (.bool (decide (200<u.length)||bigU (xE (l.take k) v u)))/\σ.t 9=.bs 25 2 k/\σ.t 29=.bs 3900000 2 l.length/\σ.t 30=.s (.int .i64 l.length)/\σ.t 31=.s (.int .i64 k) /\
   σ.b 900000=some (.box [.sl 3 T,.sl 6 Nn,.bs 3900000 2 l.length,.s (.int .i64 n0),.s (.int .i64 n1),.s (.int .i64 n2)])/\σ.b 3900000=some (.arr 160 2 (l.map SubM.enc))/\σ.b 25=some (.arr 160 2 ((xE (l.take k) v u).map SubM.enc))) l.length ⟨0,by omega,by omega,?_⟩ ?_
  ·simp only [go_sem,simprocAttr,Int.natCast_zero,List.take_zero,xE,bigU,uY]
  ·rintro n σ ⟨k,hk,rfl,h0,h1,h7,h8,h9,h29,h30,h31,b0,b1,b2⟩ K' hK
   have hnl:(xE (l.take k) v u).length=k:=by rw [yW,List.length_take];omega
   by_cases hlt:k<l.length
   ·have hx:=xb SubM.enc l k hlt
    have he:=SubM.enc_eq l[k];have hsk:=hs l[k] (List.getElem_mem hlt);have hst:=xcN v u hlt
    (have hWf:=w10 @h0 @h1 @h7 @h8 @h9 @h29 @h30 @h31 @b0 (ai @b1<|ai @b2<|ai @hx<|ai @he<|@hnl);repeat' (first|refine zS ?_|refine zI ?_ ?_|((with_reducible apply xc);refine zG (c_putI l[k].ty [⟨v,u⟩] (by omega) (by omega)) ?_)|refine zU (c_putI l[k].ty [⟨v,u⟩] (by omega) (by omega)) ?_|exact zF0|refine zD fun hb=>?_|exact zC|refine zT ?_|fail))
    refine hK (l.length - (k+1)) _ (by omega) ⟨k+1,by omega,rfl,?_⟩
    simp only [go_sem,simprocAttr,h0,h1,h7,h8,h9,h29,h30,h31,b0,b1,b2,Int.natCast_succ,hst,List.map_append,SubM.enc_eq,xaR,Bool.or_assoc,uY]
   ·obtain rfl:k=l.length:=by omega
    rw [List.take_length] at h8 b2 hnl
    (have hWf:=w10 @h0 @h1 @h7 @h8 @h9 @h29 @h30 @h31 @b0 (ai @b1<|ai @b2<|@hnl);repeat' (first|refine zS ?_|refine zI ?_ ?_|exact zF0|refine zD fun hb=>?_|exact zC|refine zT ?_|fail))
    refine xd (fun n σ=>∃ k:Nat,k<=cntU l v/\n=cntU l v - k/\σ.t 0=.bx 900000 2/\σ.t 1=.s (.int .i64 v)/\σ.t 7=.sl 2 [[.s (.int .i64 v),.sl 3 (u.map TyI.enc)]]/\σ.t 8=.s (.bool (decide (200<u.length)||bigU (xE l v u)))/\σ.t 9=.bs 25 2 l.length/\σ.t 12=.s (.int .i64 k) /\
     σ.b 900000=some (.box [.sl 3 T,.sl 6 Nn,.bs 3900000 2 l.length,.s (.int .i64 n0),.s (.int .i64 n1),.s (.int .i64 n2)])/\σ.b 3900000=some (.arr 160 2 (l.map SubM.enc))/\σ.b 25=some (.arr 160 2 ((xE l v u).map SubM.enc))) (cntU l v) ⟨0,by omega,by omega,?_⟩ ?_
    ·simp only [go_sem,simprocAttr,h0,h1,h7,h8,h9,h29,h30,h31,b0,b1,b2,Int.natCast_zero]
    ·rintro n σ ⟨k,hk,rfl,g0,g1,g7,g8,g9,g12,c0,c1,c2⟩ K'' hK''
     have hcl:=Wi l v;have hnl:=yW l v u
     by_cases hlt:k<l.length
     ·have hlt':k<(xE l v u).length:=by omega
      have hx:=xb SubM.enc (xE l v u) k hlt';have he:=SubM.enc_eq (xE l v u)[k];have hvk:=V4 l v u k hlt'
      by_cases hlt2:k<cntU l v
      ·have hd2:decide ((xE l v u)[k].v<v)=true:=by rw [hvk];exact decide_eq_true (VS hlt2 hlt)
       (have hWf:=w10 @g0 @g1 @g7 @g8 @g9 @g12 @c0 @c1 @c2 (ai @hx<|ai @he<|ai @hd2<|@hnl);repeat' (first|refine zS ?_|refine zI ?_ ?_|exact zF0|refine zD fun hb=>?_|exact zC|refine zT ?_|fail))
       refine hK'' (cntU l v - (k+1)) _ (by omega) ⟨k+1,by omega,rfl,?_⟩
       simp only [go_sem,simprocAttr,g0,g1,g7,g8,g9,g12,c0,c1,c2,Int.natCast_succ]
      ·obtain rfl:k=cntU l v:=by omega
       have hd2:decide ((xE l v u)[cntU l v].v<v)=false:=by rw [hvk];exact decide_eq_false (VR hlt)
       (have hWf:=w10 @g0 @g1 @g7 @g8 @g9 @g12 @c0 @c1 @c2 (ai @hx<|ai @he<|ai @hd2<|@hnl);repeat' (first|refine zS ?_|refine zI ?_ ?_|((with_reducible apply xc);refine xh (YL (xE l v u) ⟨v,u⟩ (cntU l v) (by omega) (by omega)) ?_;rintro _ _ ⟨rfl,rfl⟩)|refine zU (YL (xE l v u) ⟨v,u⟩ (cntU l v) (by omega) (by omega)) ?_|exact zF0|refine zD fun hb=>?_|exact zC|refine zT ?_|fail))
       all_goals first|rfl|(clear hK'' hWf;simp_all;done)|(exact xq (if_pos (by simp_all)).symm)|(exact xq (if_neg (by simp_all)).symm)|fail
     ·obtain rfl:k=cntU l v:=by omega
      have hdl:decide (((cntU l v:Nat):Int)<(l.length:Nat))=false:=by simp;omega
      have hx0:(List.map SubM.enc (xE l v u)).getD (cntU l v) []=[]:=by rw [List.getD_eq_getElem?_getD,List.getElem?_eq_none (by rw [List.length_map];omega)];rfl
      (have hWf:=w10 @g0 @g1 @g7 @g8 @g9 @g12 @c0 @c1 @c2 (ai @hnl<|ai @hdl<|@hx0);repeat' (first|refine zS ?_|refine zI ?_ ?_|((with_reducible apply xc);refine xh (YL (xE l v u) ⟨v,u⟩ (cntU l v) (by omega) (by omega)) ?_;rintro _ _ ⟨rfl,rfl⟩)|refine zU (YL (xE l v u) ⟨v,u⟩ (cntU l v) (by omega) (by omega)) ?_|exact zF0|refine zD fun hb=>?_|exact zC|refine zT ?_|fail))
      all_goals first|rfl|(clear hK'' hWf;simp_all;done)|(exact xq (if_pos (by simp_all)).symm)|(exact xq (if_neg (by simp_all)).symm)|fail
theorem xa6(T Nn:List (List D))(n0 n1 n2:Int):∀ (n:Nat) (l:List SubM) (x y:List TyI) (r:List SubM×Int),UOk n l x y->uniM n l x y=some r ->
  FT 104 [.opa 2 [.sl 3 T,.sl 6 Nn,.osl 160 2 (l.map SubM.enc),.s (.int .i64 n0),.s (.int .i64 n1),.s (.int .i64 n2)],.sl 3 (x.map TyI.enc),.sl 3 (y.map TyI.enc)] (fun q o=>q=.s (.int .i64 r.2)/\o=[.opa 2 [.sl 3 T,.sl 6 Nn,.osl 160 2 (r.1.map SubM.enc),.s (.int .i64 n0),.s (.int .i64 n1),.s (.int .i64 n2)],.un,.un])
 | 0,l,x,y,r,h,_=>h.elim
 | n+1,l,x,y,r,h,hr=>by
  obtain ⟨U,hk⟩:=h;have hX:=zp U.wX;have hY:=zp U.wY;have eX:=List.getElem?_eq_getElem hX;have eY:=List.getElem?_eq_getElem hY;have ih:=xa6 T Nn n0 n1 n2 n;rw [uniM,eX,eY] at hr
  replace hk:=hk _ _ eX eY;simp only at hr
  have hx0:=xb TyI.enc (putX l x) 0 hX;have hy0:=xb TyI.enc (putX l y) 0 hY;have px:=Xc x l (by have:=U.lx;omega) (by have:=U.lX;omega)
  have py:=Xc y l (by have:=U.ly;omega) (by have:=U.lY;omega)
  have hlx:decide ((0:Int)<(putX l x).length)=true:=by simp;omega
  have hly:decide ((0:Int)<(putX l y).length)=true:=by simp;omega
  obtain ⟨lX,lY,sm,smp,ll,wX,wY⟩:(putX l x).length<=1000000/\(putX l y).length<=1000000/\(∀ s∈l,s.ty.length<=1000000)/\(∀ (v:Int) (u:List TyI),u=putX l x\/u=putX l y->∀ s∈l,(putX [⟨v,u⟩] s.ty).length<=1000000000)/\l.length<=3000000/\wfT (putX l x)/\wfT (putX l y):=⟨U.lX,U.lY,U.sm,U.smp,U.ll,U.wX,U.wY⟩;generalize hXX:putX l x=X at *
  generalize hYY:putX l y=Y at *
  clear hXX hYY U;obtain ⟨a,ha⟩:∃ a,a=X[0]:=⟨_,rfl⟩;obtain ⟨b,hb0⟩:∃ b,b=Y[0]:=⟨_,rfl⟩;have hea:=TyI.enc_eq a;have heb:=TyI.enc_eq b;rw [<- ha] at hx0 hr hk
  rw [<- hb0] at hy0 hr hk
  unfold Wp at hr
  have bX:∀ v,FT 150 [.opa 2 [.sl 3 T,.sl 6 Nn,.osl 160 2 (l.map SubM.enc),.s (.int .i64 n0),.s (.int .i64 n1),.s (.int .i64 n2)],.s (.int .i64 v),.sl 3 (X.map TyI.enc)] (fun r o=>r=.s (.int .i64 (xB l v X).2)/\o=[.opa 2 [.sl 3 T,.sl 6 Nn,.osl 160 2 ((xB l v X).1.map SubM.enc),.s (.int .i64 n0),.s (.int .i64 n1),.s (.int .i64 n2)],.un,.un]):=fun v=>c_bindO T Nn n0 n1 n2 l v X ll lX fun s hs=>⟨sm s hs,smp v X (.inl rfl) s hs⟩
  have bY:∀ v,FT 150 [.opa 2 [.sl 3 T,.sl 6 Nn,.osl 160 2 (l.map SubM.enc),.s (.int .i64 n0),.s (.int .i64 n1),.s (.int .i64 n2)],.s (.int .i64 v),.sl 3 (Y.map TyI.enc)] (fun r o=>r=.s (.int .i64 (xB l v Y).2)/\o=[.opa 2 [.sl 3 T,.sl 6 Nn,.osl 160 2 ((xB l v Y).1.map SubM.enc),.s (.int .i64 n0),.s (.int .i64 n1),.s (.int .i64 n2)],.un,.un]):=fun v=>c_bindO T Nn n0 n1 n2 l v Y ll lY fun s hs=>⟨sm s hs,smp v Y (.inr rfl) s hs⟩
  cases hva:varB a with
  | true=>
   have ea:=YF hva;rw [if_pos hva] at hr
   cases hvb:varB b with
   | true=>
    have eb:=YF hvb;rw [if_pos hvb] at hr
    by_cases hvv:a.v=b.v
    ·have e1:(a.v==b.v)=true:=by simpa using hvv
     rw [if_pos hvv] at hr
     obtain rfl:(l,0)=r:=by simpa using hr
     refine FI PM Tryz.func104 Tryz.ntmps104 [(1,11,[],[],(lin [] [0,1,2,3,4,5,6,7,8,9,10])),(2,9,[6,7,8],[(6,0),(6,1),(6,2),(6,3),(6,4),(6,5),(7,0),(7,1),(7,2),(7,3),(7,4),(7,5),(8,3),(8,4),(8,5)],(.fl 0 (.fl 1 (.fl 2 (.fl 3 (.fl 4 (.fl 5 (.fx 6 (.fx 7 (.fx 8 .nil .no) .no) (.fx 7 (.fx 6 (.fx 8 .nil .no) .no) .no))))))))),(17,9,[],[],(lin [] [0,1,2,3,4,5,6,7,8]))] rfl rfl ?_
     (have hWf:=w10 @hx0 @hy0 @hea @heb @hlx @hly @ea @eb @e1 @lit0;repeat' (first|refine zS ?_|refine zI ?_ ?_|refine zK px ?_|refine zK py ?_|exact zF0|refine zD fun hb=>?_|exact zC|refine zT ?_|fail))
    ·have e1:(a.v==b.v)=false:=by simpa using hvv
     rw [if_neg hvv] at hr
     by_cases hvl:a.v<b.v
     ·have e2:decide (a.v<b.v)=true:=decide_eq_true hvl
      rw [if_pos hvl] at hr
      obtain rfl:xB l b.v X=r:=by simpa using hr
      refine FI PM Tryz.func104 Tryz.ntmps104 [(1,11,[],[],(lin [] [0,1,2,3,4,5,6,7,8,9,10])),(2,9,[6,7,8],[(6,0),(6,1),(6,2),(6,3),(6,4),(6,5),(7,0),(7,1),(7,2),(7,3),(7,4),(7,5),(8,3),(8,4),(8,5)],(.fl 0 (.fl 1 (.fl 2 (.fl 3 (.fl 4 (.fl 5 (.fx 6 (.fx 7 (.fx 8 .nil .no) .no) (.fx 7 (.fx 6 (.fx 8 .nil .no) .no) .no))))))))),(17,9,[],[],(lin [] [0,1,2,3,4,5,6,7,8]))] rfl rfl ?_
      (have hWf:=w10 @hx0 @hy0 @hea @heb @hlx @hly @ea @eb @e1 (ai @e2<|@lit0);repeat' (first|refine zS ?_|refine zI ?_ ?_|refine zK px ?_|refine zK py ?_|refine zH (bX b.v) ?_|exact zF0|refine zD fun hb=>?_|exact zC|refine zT ?_|fail))
     ·have e2:decide (a.v<b.v)=false:=decide_eq_false hvl
      rw [if_neg hvl] at hr
      obtain rfl:xB l a.v Y=r:=by simpa using hr
      refine FI PM Tryz.func104 Tryz.ntmps104 [(1,11,[],[],(lin [] [0,1,2,3,4,5,6,7,8,9,10])),(2,9,[6,7,8],[(6,0),(6,1),(6,2),(6,3),(6,4),(6,5),(7,0),(7,1),(7,2),(7,3),(7,4),(7,5),(8,3),(8,4),(8,5)],(.fl 0 (.fl 1 (.fl 2 (.fl 3 (.fl 4 (.fl 5 (.fx 6 (.fx 7 (.fx 8 .nil .no) .no) (.fx 7 (.fx 6 (.fx 8 .nil .no) .no) .no))))))))),(17,9,[],[],(lin [] [0,1,2,3,4,5,6,7,8]))] rfl rfl ?_
      (have hWf:=w10 @hx0 @hy0 @hea @heb @hlx @hly @ea @eb @e1 (ai @e2<|@lit0);repeat' (first|refine zS ?_|refine zI ?_ ?_|refine zK px ?_|refine zK py ?_|refine zH (bY a.v) ?_|exact zF0|refine zD fun hb=>?_|exact zC|refine zT ?_|fail))
   | false=>
    have eb:=YE hvb;rw [if_neg (by simp [hvb])] at hr
    obtain rfl:xB l a.v Y=r:=by simpa using hr
    refine FI PM Tryz.func104 Tryz.ntmps104 [(1,11,[],[],(lin [] [0,1,2,3,4,5,6,7,8,9,10])),(2,9,[6,7,8],[(6,0),(6,1),(6,2),(6,3),(6,4),(6,5),(7,0),(7,1),(7,2),(7,3),(7,4),(7,5),(8,3),(8,4),(8,5)],(.fl 0 (.fl 1 (.fl 2 (.fl 3 (.fl 4 (.fl 5 (.fx 6 (.fx 7 (.fx 8 .nil .no) .no) (.fx 7 (.fx 6 (.fx 8 .nil .no) .no) .no))))))))),(17,9,[],[],(lin [] [0,1,2,3,4,5,6,7,8]))] rfl rfl ?_
    (have hWf:=w9 @hx0 @hy0 @hea @heb @hlx @hly @ea @eb @lit0;repeat' (first|refine zS ?_|refine zI ?_ ?_|refine zK px ?_|refine zK py ?_|refine zH (bY a.v) ?_|exact zF0|refine zD fun hb=>?_|exact zC|refine zT ?_|fail))
  | false=>
   have ea:=YE hva;rw [if_neg (by simp [hva])] at hr
   cases hvb:varB b with
   | true=>
    have eb:=YF hvb;rw [if_pos hvb] at hr
    obtain rfl:xB l b.v X=r:=by simpa using hr
    refine FI PM Tryz.func104 Tryz.ntmps104 [(1,11,[],[],(lin [] [0,1,2,3,4,5,6,7,8,9,10])),(2,9,[6,7,8],[(6,0),(6,1),(6,2),(6,3),(6,4),(6,5),(7,0),(7,1),(7,2),(7,3),(7,4),(7,5),(8,3),(8,4),(8,5)],(.fl 0 (.fl 1 (.fl 2 (.fl 3 (.fl 4 (.fl 5 (.fx 6 (.fx 7 (.fx 8 .nil .no) .no) (.fx 7 (.fx 6 (.fx 8 .nil .no) .no) .no))))))))),(17,9,[],[],(lin [] [0,1,2,3,4,5,6,7,8]))] rfl rfl ?_
    (have hWf:=w9 @hx0 @hy0 @hea @heb @hlx @hly @ea @eb @lit0;repeat' (first|refine zS ?_|refine zI ?_ ?_|refine zK px ?_|refine zK py ?_|refine zH (bX b.v) ?_|exact zF0|refine zD fun hb=>?_|exact zC|refine zT ?_|fail))
   | false=>
    have eb:=YE hvb;rw [if_neg (by simp [hvb])] at hr
    by_cases hnn:a.name.toList=b.name.toList
    ·have e1:(a.name.toList==b.name.toList)=true:=by simpa using hnn
     by_cases har:a.ar=b.ar
     ·have e2:(a.ar != b.ar)=false:=by simpa using har
      rw [if_neg (by simp [hnn,har])] at hr
      replace hk:=hk hva hvb hnn har;have kX:=xaU X wX lX;have kY:=xaU Y wY lY;rw [<- ha] at kX
      rw [<- hb0,<- har] at kY
      refine FI PM Tryz.func104 Tryz.ntmps104 [(1,11,[],[],(lin [] [0,1,2,3,4,5,6,7,8,9,10])),(2,9,[6,7,8],[(6,0),(6,1),(6,2),(6,3),(6,4),(6,5),(7,0),(7,1),(7,2),(7,3),(7,4),(7,5),(8,3),(8,4),(8,5)],(.fl 0 (.fl 1 (.fl 2 (.fl 3 (.fl 4 (.fl 5 (.fx 6 (.fx 7 (.fx 8 .nil .no) .no) (.fx 7 (.fx 6 (.fx 8 .nil .no) .no) .no))))))))),(17,9,[],[],(lin [] [0,1,2,3,4,5,6,7,8]))] rfl rfl ?_
      (have hWf:=w10 @hx0 @hy0 @hea @heb @hlx @hly @ea @eb @e1 (ai @e2<|@lit0);repeat' (first|refine zS ?_|refine zI ?_ ?_|refine zK px ?_|refine zK py ?_|refine zK kX ?_|refine zK kY ?_|exact zF0|refine zD fun hb=>?_|exact zC|refine zT ?_|fail))
      have hm2:a.ar.toNat<=2:=by have:=(wX.1 _ (List.getElem_mem hX)).2;rw [<- ha] at this;omega
      generalize hm:a.ar.toNat=m at *
      have hkX:=XE X m;have hkY:=XE Y m;refine xd (fun q σ=>∃ (i:Nat) (li:List SubM),i<=m/\q=m - i/\zO (uniM n) X Y (m - i) i li=some r/\Zt (UOk n) (uniM n) X Y (m - i) i li/\σ.t 0=.bx 900000 2/\σ.t 6=.s (.int .i64 0)/\σ.t 9=.bs 1100 1 m/\σ.t 10=.bs 1102 1 m/\σ.t 104=.s (.int .i64 m)/\σ.t 105=.s (.int .i64 i) /\
       σ.b 900000=some (.box [.sl 3 T,.sl 6 Nn,.bs 3900000 2 li.length,.s (.int .i64 n0),.s (.int .i64 n1),.s (.int .i64 n2)])/\σ.b 3900000=some (.arr 160 2 (li.map SubM.enc))/\σ.b 1100=some (.arr 29 1 ((kids X m).map kE))/\σ.b 1102=some (.arr 29 1 ((kids Y m).map kE))) m ⟨0,l,by omega,by omega,hr,hk,?_⟩ ?_
      ·simp only [go_sem,simprocAttr,Int.natCast_zero,hkX,hkY]
       all_goals trace_state
      ·rintro q σ ⟨i,li,hi,rfl,hr,hk,h0,h6,h9,h10,h104,h105,b0,b1,b2,b3⟩ K' hK
       by_cases hlt:i<m
       ·obtain ⟨j,hj⟩:∃ j,m - i=j+1:=⟨m - i - 1,by omega⟩
        rw [hj] at hr hk
        rw [zO] at hr
        obtain ⟨k1,k2⟩:=hk;have hxk:=xb kE (kids X m) i (by omega)
        have hyk:=xb kE (kids Y m) i (by omega)
        have hxe:(kids X m)[i]'(by omega)=kid X i:=by simp [kids]
        have hye:(kids Y m)[i]'(by omega)=kid Y i:=by simp [kids]
        rw [hxe,kE_eq] at hxk
        rw [hye,kE_eq] at hyk
        cases hf:uniM n li (kid X i) (kid Y i) with
        | none=>rw [hf] at hr;cases hr
        | some r1=>
         rw [hf] at hr
         obtain ⟨l1,c1⟩:=r1;have hcall:=ih li (kid X i) (kid Y i) (l1,c1) k1 hf
         by_cases hc:c1=0
         ·have e3:(c1 != 0)=false:=by simp [hc]
          simp only [hc,if_true] at hr
          (have hWf:=w10 @h0 @h6 @h9 @h10 @h104 @h105 @b0 @b1 @b2 (ai @b3<|ai @hxk<|ai @hyk<|ai @e3<|ai @hkX<|@hkY);repeat' (first|refine zS ?_|refine zI ?_ ?_|refine zH hcall ?_|exact zF0|refine zD fun hb=>?_|exact zC|refine zT ?_|fail))
          refine hK (m - (i+1)) _ (by omega) ⟨i+1,l1,by omega,rfl,by rw [show m - (i+1)=j by omega];exact hr,by rw [show m - (i+1)=j by omega];exact k2 l1 (by rw [hf,hc]),?_⟩
          simp only [go_sem,simprocAttr,h0,h6,h9,h10,h104,h105,b0,b1,b2,b3,Int.natCast_succ]
         ·have e3:(c1 != 0)=true:=by simp [hc]
          simp only [hc,if_false] at hr
          obtain rfl:(l1,c1)=r:=by simpa using hr
          (have hWf:=w10 @h0 @h6 @h9 @h10 @h104 @h105 @b0 @b1 @b2 (ai @b3<|ai @hxk<|ai @hyk<|ai @e3<|ai @hkX<|@hkY);repeat' (first|refine zS ?_|refine zI ?_ ?_|refine zH hcall ?_|exact zF0|refine zD fun hb=>?_|exact zC|refine zT ?_|fail))
       ·obtain rfl:i=m:=by omega
        rw [Nat.sub_self,zO] at hr
        obtain rfl:(li,0)=r:=by simpa using hr
        (have hWf:=w10 @h0 @h6 @h9 @h10 @h104 @h105 @b0 @b1 @b2 @b3;repeat' (first|refine zS ?_|refine zI ?_ ?_|exact zF0|refine zD fun hb=>?_|exact zC|refine zT ?_|fail))
     ·have e2:(a.ar != b.ar)=true:=by simpa using har
      rw [if_pos (.inr har)] at hr
      obtain rfl:(l,2)=r:=by simpa using hr
      refine FI PM Tryz.func104 Tryz.ntmps104 [(1,11,[],[],(lin [] [0,1,2,3,4,5,6,7,8,9,10])),(2,9,[6,7,8],[(6,0),(6,1),(6,2),(6,3),(6,4),(6,5),(7,0),(7,1),(7,2),(7,3),(7,4),(7,5),(8,3),(8,4),(8,5)],(.fl 0 (.fl 1 (.fl 2 (.fl 3 (.fl 4 (.fl 5 (.fx 6 (.fx 7 (.fx 8 .nil .no) .no) (.fx 7 (.fx 6 (.fx 8 .nil .no) .no) .no))))))))),(17,9,[],[],(lin [] [0,1,2,3,4,5,6,7,8]))] rfl rfl ?_
      (have hWf:=w10 @hx0 @hy0 @hea @heb @hlx @hly @ea @eb @e1 (ai @e2<|@lit0);repeat' (first|refine zS ?_|refine zI ?_ ?_|refine zK px ?_|refine zK py ?_|exact zF0|refine zD fun hb=>?_|exact zC|refine zT ?_|fail))
    ·have e1:(a.name.toList==b.name.toList)=false:=by simpa using hnn
     rw [if_pos (.inl hnn)] at hr
     obtain rfl:(l,2)=r:=by simpa using hr
     refine FI PM Tryz.func104 Tryz.ntmps104 [(1,11,[],[],(lin [] [0,1,2,3,4,5,6,7,8,9,10])),(2,9,[6,7,8],[(6,0),(6,1),(6,2),(6,3),(6,4),(6,5),(7,0),(7,1),(7,2),(7,3),(7,4),(7,5),(8,3),(8,4),(8,5)],(.fl 0 (.fl 1 (.fl 2 (.fl 3 (.fl 4 (.fl 5 (.fx 6 (.fx 7 (.fx 8 .nil .no) .no) (.fx 7 (.fx 6 (.fx 8 .nil .no) .no) .no))))))))),(17,9,[],[],(lin [] [0,1,2,3,4,5,6,7,8]))] rfl rfl ?_
     (have hWf:=w10 @hx0 @hy0 @hea @heb @hlx @hly @ea @eb @e1 @lit0;repeat' (first|refine zS ?_|refine zI ?_ ?_|refine zK px ?_|refine zK py ?_|exact zF0|refine zD fun hb=>?_|exact zC|refine zT ?_|fail))
theorem FCon.iceO{P:Program}{f:FuncId}{args o:List D}{y:D}(h:FCon P f args (fun r o'=>frA r=y/\o'=o)):FCon P f args (fun r o'=>r=y/\o'=o):=h.frz.mono fun _ _ ⟨_,e,q⟩=>⟨q.trans e.1,e.2⟩
def nwT(x x':D):Prop:=x'=x\/(x=.nil/\∃ k,x'=.sl k [])\/(x=.ag [.nil]/\∃ k,x'=.ag [.sl k []])
theorem rn_nw{g:Gh}{w:World}{m:Nat}{x x':D}{u:Value}(h:nwT x x')(hr:RN g w m x u):RN g w m x' u:=by
 rcases h with rfl|⟨rfl,k,rfl⟩|⟨rfl,k,rfl⟩
 ·exact hr
 ·exact Rep.nil_sl k (show Rep g.S g.up w (some (.ans m 0)) .nil u from hr)
 ·obtain ⟨us,rfl,hl,hc⟩:=hr
  refine ⟨us,rfl,by simpa using hl,fun l x u hx hu=>?_⟩
  match l,hx with
  | 0,hx=>
   have hx:D.sl k []=x:=by simpa using hx
   subst hx;exact Rep.nil_sl k (hc 0 _ u rfl hu)
  | l+1,hx=>simp at hx
theorem FCon.tupN{P:Program}{f:FuncId}{args o:List D}{xs xs':List D}(h:FCon P f args (fun r o'=>r=.tup xs/\o'=o))(hl:xs'.length=xs.length)(hc:∀ (m:Nat) (x x':D),xs[m]?=some x->xs'[m]?=some x'->nwT x x'):FCon P f args (fun r o'=>r=.tup xs'/\o'=o):=h.wk fun r o' e=>by
 obtain ⟨rfl,rfl⟩:=e;exact ⟨_,⟨rfl,rfl⟩,fun g w v hv=>YH hl (fun m x x' hx hx' u hu=>rn_nw (hc m x x' hx hx') hu) hv⟩
theorem FCon.tup1{P:Program}{f:FuncId}{args o:List D}{k:Nat}{c:D}(h:FCon P f args (fun r o'=>r=.tup [.nil,c]/\o'=o)):FCon P f args (fun r o'=>r=.tup [.sl k [],c]/\o'=o):=h.tupN rfl fun m x x' hx hx'=>by
 match m,hx,hx' with
 | 0,hx,hx'=>exact .inr (.inl ⟨(Option.some.inj hx).symm,k,(Option.some.inj hx').symm⟩)
 | 1,hx,hx'=>exact .inl (by rw [<- Option.some.inj hx,<- Option.some.inj hx'])
 | m+2,hx,hx'=>simp at hx
theorem FCon.tupA{P:Program}{f:FuncId}{args o:List D}{k:Nat}{c:D}(h:FCon P f args (fun r o'=>r=.tup [.ag [.nil],c]/\o'=o)):FCon P f args (fun r o'=>r=.tup [.ag [.sl k []],c]/\o'=o):=h.tupN rfl fun m x x' hx hx'=>by
 match m,hx,hx' with
 | 0,hx,hx'=>exact .inr (.inr ⟨(Option.some.inj hx).symm,k,(Option.some.inj hx').symm⟩)
 | 1,hx,hx'=>exact .inl (by rw [<- Option.some.inj hx,<- Option.some.inj hx'])
 | m+2,hx,hx'=>simp at hx
end
section
open Go.RowKit Arb
def fR(T N:List (List D))(s:IS):List D:=[.sl 3 T,.sl 6 N,.osl 160 2 (s.l.map SubM.enc),.s (.int .i64 s.nx),.s (.int .i64 s.code),.s (.int .i64 s.at_)]
theorem xx(T N:List (List D))(s:IS):fR T N s=[.sl 3 T,.sl 6 N,.osl 160 2 (s.l.map SubM.enc),.s (.int .i64 s.nx),.s (.int .i64 s.code),.s (.int .i64 s.at_)]:=rfl
section
variable {T N:List (List D)}
theorem YM(s:IS)(h:s.nx<=4000000):FT 99 [.opt (fR T N s)] (fun r o=>r=.sl 3 [(fvI s.nx).enc]/\o=[.opt (fR T N (incM s 1))]):=by
 refine FCon.iceO ?_;rw [xx,xx];refine FI PM Tryz.func99 Tryz.ntmps99 [] rfl rfl ?_
 (have hWf:=f0;repeat' (first|refine zS ?_|refine zI ?_ ?_|exact zF0|refine zD fun hb=>?_|exact zC|refine zT ?_|fail))
 ·rw [Int.add_sub_cancel];rfl
 ·rfl
theorem ZA(s:IS)(c a:Int):FT 103 [.opt (fR T N s),.s (.int .i64 c),.s (.int .i64 a)] (fun r o=>r=.s (.bool false)/\o=[.opt (fR T N (yP s c a)),.un,.un]):=by
 unfold yP
 by_cases h:s.code=0
 ·have e:(s.code==0)=true:=by simp [h]
  rw [if_pos h,xx,xx];refine FI PM Tryz.func103 Tryz.ntmps103 [] rfl rfl ?_
  (have hWf:=w1 @e;repeat' (first|refine zS ?_|refine zI ?_ ?_|exact zF0|refine zD fun hb=>?_|exact zC|refine zT ?_|fail))
 ·have e:(s.code==0)=false:=by simpa using h
  rw [if_neg h,xx];refine FI PM Tryz.func103 Tryz.ntmps103 [] rfl rfl ?_
  (have hWf:=w1 @e;repeat' (first|refine zS ?_|refine zI ?_ ?_|exact zF0|refine zD fun hb=>?_|exact zC|refine zT ?_|fail))
end
section
variable {T N:List (List D)}
theorem c_same(s:IS)(x y:List TyI)(a:Int)(hs:OkS s)(hn:s.nx<=3000000)(hx:s.code=0->TyG s.nx x)(hy:s.code=0->TyG s.nx y)(lx:x.length<=10000000)(ly:y.length<=10000000) :
  FT 49 [.opt (fR T N s),.sl 3 (x.map TyI.enc),.sl 3 (y.map TyI.enc),.s (.int .i64 a)] (fun r o=>r=.s (.bool (decide ((xD s x y a).code=0)))/\o=[.opt (fR T N (xD s x y a)),.un,.un,.un]):=by
 by_cases q:s.code=0
 ·have e0:(s.code != 0)=false:=by simp [q]
  have G:=hs q;have bx:=z9 (l:=s.l) (B:=200) (by omega) G.g.len x
  have by':=z9 (l:=s.l) (B:=200) (by omega) G.g.len y
  have px:=Xc x s.l (by omega) (by omega)
  have py:=Xc y s.l (by omega) (by omega)
  have gx:=uY (putX s.l x);have gy:=uY (putX s.l y)
  by_cases h1:200<(putX s.l x).length
  ·rw [vY q a (.inl h1)]
   have f1:decide (((putX s.l x).length:Int)>200)=true:=by rw [gx];exact decide_eq_true h1
   have cf:=ZA (T:=T) (N:=N) s 26 a;unfold yP at cf
   rw [if_pos q] at cf
   rw [xx] at cf ⊢
   rw [xx] at cf ⊢
   refine FI PM Tryz.func49 Tryz.ntmps49 [] rfl rfl ?_
   (have hWf:=w2 @e0 @f1;repeat' (first|refine zS ?_|refine zI ?_ ?_|refine zK px ?_|refine zH cf ?_|exact zF0|refine zD fun hb=>?_|exact zC|refine zT ?_|fail))
  ·have f1:decide (((putX s.l x).length:Int)>200)=false:=by rw [gx];exact decide_eq_false h1
   by_cases h2:200<(putX s.l y).length
   ·rw [vY q a (.inr h2)]
    have f2:decide (((putX s.l y).length:Int)>200)=true:=by rw [gy];exact decide_eq_true h2
    have cf:=ZA (T:=T) (N:=N) s 26 a;unfold yP at cf
    rw [if_pos q] at cf
    rw [xx] at cf ⊢
    rw [xx] at cf ⊢
    refine FI PM Tryz.func49 Tryz.ntmps49 [] rfl rfl ?_
    (have hWf:=w3 @e0 @f1 @f2;repeat' (first|refine zS ?_|refine zI ?_ ?_|refine zK px ?_|refine zK py ?_|refine zH cf ?_|exact zF0|refine zD fun hb=>?_|exact zC|refine zT ?_|fail))
   ·have f2:decide (((putX s.l y).length:Int)>200)=false:=by rw [gy];exact decide_eq_false h2
    have hb:¬ (200<(putX s.l x).length\/200<(putX s.l y).length):=by omega
    obtain ⟨n,u1,u2,u3,u4⟩:=v4 G hn (hx q) (hy q) (by omega) (by omega)
    have cu:=xa6 T N s.nx s.code s.at_ n s.l x y _ u1 u2
    by_cases hz:(uniR s.l x y).2=0
    ·rw [WD q a hb hz]
     have f3:((uniR s.l x y).2 != 0)=false:=by simp [hz]
     have f4:decide (s.code=0)=true:=decide_eq_true q;rw [xx,xx];refine FI PM Tryz.func49 Tryz.ntmps49 [] rfl rfl ?_
     (have hWf:=w5 @e0 @f1 @f2 @f3 @f4;repeat' (first|refine zS ?_|refine zI ?_ ?_|refine zK px ?_|refine zK py ?_|refine zH cu ?_|exact zF0|refine zD fun hb=>?_|exact zC|refine zT ?_|fail))
    ·rw [WE q a hb hz]
     have f3:((uniR s.l x y).2 != 0)=true:=by simp [hz]
     have f4:decide ((uniR s.l x y).2+22=0)=false:=decide_eq_false (by omega)
     have hi:=uniR_hi s.l x y;have cf:=ZA (T:=T) (N:=N) ⟨(uniR s.l x y).1,s.nx,s.code,s.at_⟩ ((uniR s.l x y).2+22) a;unfold yP at cf
     rw [if_pos q] at cf
     rw [xx] at cf ⊢
     rw [xx] at cf ⊢
     refine FI PM Tryz.func49 Tryz.ntmps49 [] rfl rfl ?_
     (have hWf:=w5 @e0 @f1 @f2 @f3 @f4;repeat' (first|refine zS ?_|refine zI ?_ ?_|refine zK px ?_|refine zK py ?_|refine zH cu ?_|refine zH cf ?_|exact zF0|refine zD fun hb=>?_|exact zC|refine zT ?_|fail))
 ·have e0:(s.code != 0)=true:=by simp [q]
  have e1:decide (s.code=0)=false:=decide_eq_false q;rw [vi q,e1,xx];refine FI PM Tryz.func49 Tryz.ntmps49 [] rfl rfl ?_
  (have hWf:=w1 @e0;repeat' (first|refine zS ?_|refine zI ?_ ?_|exact zF0|refine zD fun hb=>?_|exact zC|refine zT ?_|fail))
end
theorem c_putNil(l:List SubM):FT 102 [.nil,.sl 2 (l.map SubM.enc)] (fun r _=>r=.osl 143 3 []):=by
 have h:=Xc [] l (by simp) (by simp [putX])
 exact h.arg [.nil,.sl 2 (l.map SubM.enc)] rfl fun j d' d h1 h2 g w u hu=>by
   match j,h1,h2 with
   | 0,h1,h2=>
    rw [<- Option.some.inj h2];rw [<- Option.some.inj h1] at hu
    exact RA_nilS hu
   | 1,h1,h2=>rw [<- Option.some.inj h2,Option.some.inj h1];exact hu
   | j+2,h1,h2=>simp at h1
def XY(c:ConR):D:=if c.ok=true then .tup [.sl 3 (c.own.map TyI.enc),.sl 3 (c.arg.map TyI.enc),.s (.bool true)] else .tup [.nil,.nil,.s (.bool false)]
theorem Q6(l:List TyI)(h:l=[]):Y4 l=.nil:=if_pos h
section
variable {ts:List MType} {N:List (List D)}
theorem c_cons(T:yv ts)(s:IS)(name:ByteArray)(has:Bool)(a:Int)(hn:s.nx<=3000000) :
  FT 101 [.opt (fR (ts.map MType.enc) N s),.s (.string name),.s (.bool has),.s (.int .i64 a)] (fun r o=>r=XY (conI ts s name has a).1/\o=[.opt (fR (ts.map MType.enc) N (conI ts s name has a).2),.un,.un,.un]):=by
 have co:=c_conOf ts name (by have:=T.len;omega) (fun t ht=>by have:=T.cl t ht;omega) T.par (fun t ht c hc h=>by have:=(T.arg t ht c hc h).1.wf.pos;intro e;rw [e] at this;exact Nat.lt_irrefl _ this)
 rcases wE ts s name has a with ⟨h,e⟩|⟨own,arg,many,h,hh⟩
 ·have cf:=ZA (T:=ts.map MType.enc) (N:=N) s 22 a
  rw [e];rw [h] at co
  unfold XY conD at *
  rw [if_neg (by simp)]
  rw [xx] at cf ⊢
  rw [xx] at cf ⊢
  refine FI PM Tryz.func101 Tryz.ntmps101 [] rfl rfl ?_
  (have hWf:=f0;repeat' (first|refine zS ?_|refine zI ?_ ?_|refine zK co ?_|refine zH cf ?_|exact zF0|refine zD fun hb=>?_|exact zC|refine zT ?_|fail))
 ·rw [h] at co
  have G:=Yx T h;have co:FT 148 [.sl 3 (ts.map MType.enc),.s (.string name)] (fun r _=>r=.tup [.sl 3 (own.map TyI.enc),Y4 arg,.s (.int .i64 many),.s (.bool true)]):=co
  have el:decide ((arg.length:Int)>0)=decide (0<arg.length):=by rw [Bool.eq_iff_iff];simp
  rcases hh with ⟨h1,e⟩|⟨h1,e⟩
  ·have cf:=ZA (T:=ts.map MType.enc) (N:=N) s 23 a
   rw [e];unfold XY;rw [if_neg (by simp)]
   rw [xx] at cf ⊢
   rw [xx] at cf ⊢
   by_cases hz:arg=[]
   ·subst hz
    obtain rfl:has=true:=by simpa using h1
    rw [Q6 _ rfl] at co
    refine FI PM Tryz.func101 Tryz.ntmps101 [] rfl rfl ?_
    (have hWf:=f0;repeat' (first|refine zS ?_|refine zI ?_ ?_|refine zK co ?_|refine zH cf ?_|exact zF0|refine zD fun hb=>?_|exact zC|refine zT ?_|fail))
   ·rw [UF hz] at co
    have hp:0<arg.length:=List.length_pos_iff.2 hz;rw [decide_eq_true hp] at h1 el
    obtain rfl:has=false:=by simpa using h1
    refine FI PM Tryz.func101 Tryz.ntmps101 [] rfl rfl ?_
    (have hWf:=w1 @el;repeat' (first|refine zS ?_|refine zI ?_ ?_|refine zK co ?_|refine zH cf ?_|exact zF0|refine zD fun hb=>?_|exact zC|refine zT ?_|fail))
  ·rw [e]
   obtain ⟨mn,hmn⟩:∃ mn:Nat,many=mn:=⟨many.toNat,by have:=G.m;omega⟩
   have hm2:mn<=2:=by have:=G.m;omega
   have hmt:many.toNat=mn:=by omega
   rw [hmt];have f1:=zu mn s.nx own;have f2:=zu mn s.nx arg;have ol:=G.ol;have al:=G.al;have po:=Xc own (xm mn s.nx) (by omega) (by omega)
   have pa:=Xc arg (xm mn s.nx) (by omega) (by omega)
   have pn:=c_putNil (xm mn s.nx);unfold XY;rw [if_pos rfl,xx,xx];refine FCon.iceO ?_
   by_cases hz:arg=[]
   ·subst hz
    obtain rfl:has=false:=h1;rw [Q6 _ rfl] at co
    refine FI PM Tryz.func101 Tryz.ntmps101 [] rfl rfl ?_
    (have hWf:=w1 @hmn;repeat' (first|refine zS ?_|refine zI ?_ ?_|refine zK co ?_|exact zF0|refine zD fun hb=>?_|exact zC|refine zT ?_|fail))
    refine xd (fun n σ=>∃ k:Nat,k<=mn/\n=mn - k/\σ.t 0=.bx 900000 0/\σ.t 11=.sl 3 (own.map TyI.enc)/\σ.t 12=.nil/\σ.t 15=.bs 42 2 k/\σ.t 43=.s (.int .i64 mn)/\σ.t 44=.s (.int .i64 k)/\σ.b 900000=some (.box [.sl 3 (ts.map MType.enc),.sl 6 N,.bs 3900000 2 s.l.length,.s (.int .i64 ((s.nx+k:Nat):Int)),.s (.int .i64 s.code),.s (.int .i64 s.at_)])/\σ.b 3900000=some (.arr 160 2 (s.l.map SubM.enc))/\σ.b 42=some (.arr 160 2 ((xm k s.nx).map SubM.enc))) mn ⟨0,by omega,by omega,?_⟩ ?_
    ·simp only [go_sem,simprocAttr]
     rfl
    ·rintro n σ ⟨k,hk,rfl,i0,i11,i12,i15,i43,i44,b9,b39,b42⟩ K' hK
     have hfl:=YX k s.nx
     by_cases hlt:k<mn
     ·have hf:=YM (T:=ts.map MType.enc) (N:=N) ⟨s.l,s.nx+k,s.code,s.at_⟩ (show s.nx+k<=4000000 by omega)
      rw [xx,xx] at hf
      (have hWf:=w10 @i0 @i11 @i12 @i15 @i43 @i44 @b9 @b39 @b42 @hfl;repeat' (first|refine zS ?_|refine zI ?_ ?_|refine zH hf ?_|exact zF0|refine zD fun hb=>?_|exact zC|refine zT ?_|fail))
      refine hK (mn - (k+1)) _ (by omega) ⟨k+1,by omega,rfl,?_⟩
      simp only [go_sem,simprocAttr,i0,i11,i12,i15,i43,i44,b9,b39,b42,Int.natCast_succ,Yp,List.map_append];exact ⟨rfl,rfl,by rw [SubM.enc_eq];rfl⟩
     ·obtain rfl:k=mn:=by omega
      (have hWf:=w10 @i0 @i11 @i12 @i15 @i43 @i44 @b9 @b39 @b42 @hfl;repeat' (first|refine zS ?_|refine zI ?_ ?_|refine zK po ?_|refine zK pn ?_|exact zF0|refine zD fun hb=>?_|exact zC|refine zT ?_|fail))
      all_goals first|exact xP TyI.pure _ _ _|exact xP TyI.pure _ _ ([]:List TyI)|rfl|trace_state
   ·rw [UF hz] at co
    have hp:0<arg.length:=List.length_pos_iff.2 hz;rw [decide_eq_true hp] at h1 el
    obtain rfl:has=true:=h1;refine FI PM Tryz.func101 Tryz.ntmps101 [] rfl rfl ?_
    (have hWf:=w2 @hmn @el;repeat' (first|refine zS ?_|refine zI ?_ ?_|refine zK co ?_|exact zF0|refine zD fun hb=>?_|exact zC|refine zT ?_|fail))
    refine xd (fun n σ=>∃ k:Nat,k<=mn/\n=mn - k/\σ.t 0=.bx 900000 0/\σ.t 11=.sl 3 (own.map TyI.enc)/\σ.t 12=.sl 3 (arg.map TyI.enc)/\σ.t 15=.bs 42 2 k/\σ.t 43=.s (.int .i64 mn)/\σ.t 44=.s (.int .i64 k)/\σ.b 900000=some (.box [.sl 3 (ts.map MType.enc),.sl 6 N,.bs 3900000 2 s.l.length,.s (.int .i64 ((s.nx+k:Nat):Int)),.s (.int .i64 s.code),.s (.int .i64 s.at_)])/\σ.b 3900000=some (.arr 160 2 (s.l.map SubM.enc))/\σ.b 42=some (.arr 160 2 ((xm k s.nx).map SubM.enc))) mn ⟨0,by omega,by omega,?_⟩ ?_
    ·simp only [go_sem,simprocAttr]
     rfl
    ·rintro n σ ⟨k,hk,rfl,i0,i11,i12,i15,i43,i44,b9,b39,b42⟩ K' hK
     have hfl:=YX k s.nx
     by_cases hlt:k<mn
     ·have hf:=YM (T:=ts.map MType.enc) (N:=N) ⟨s.l,s.nx+k,s.code,s.at_⟩ (show s.nx+k<=4000000 by omega)
      rw [xx,xx] at hf
      (have hWf:=w10 @i0 @i11 @i12 @i15 @i43 @i44 @b9 @b39 @b42 @hfl;repeat' (first|refine zS ?_|refine zI ?_ ?_|refine zH hf ?_|exact zF0|refine zD fun hb=>?_|exact zC|refine zT ?_|fail))
      refine hK (mn - (k+1)) _ (by omega) ⟨k+1,by omega,rfl,?_⟩
      simp only [go_sem,simprocAttr,i0,i11,i12,i15,i43,i44,b9,b39,b42,Int.natCast_succ,Yp,List.map_append];exact ⟨rfl,rfl,by rw [SubM.enc_eq];rfl⟩
     ·obtain rfl:k=mn:=by omega
      (have hWf:=w10 @i0 @i11 @i12 @i15 @i43 @i44 @b9 @b39 @b42 @hfl;repeat' (first|refine zS ?_|refine zI ?_ ?_|refine zK po ?_|refine zK pa ?_|exact zF0|refine zD fun hb=>?_|exact zC|refine zT ?_|fail))
      all_goals first|exact xP TyI.pure _ _ _|fail|rfl|trace_state
end
def genD(g:List Int):D:=if g=[] then .nil else .sl 1 (g.map iE)
theorem TyE_frz(xs:List TyI):xu (xs.map TyI.enc)=xs.map TyI.enc:=x9 (fun x=>by simp only [TyI.enc_eq,frzL,frz]) xs
def wi:List Bnd->D
 | []=>.np
 | b::e=>.pt [.s (.string b.name),.sl 3 (b.ty.map TyI.enc),genD b.gen,wi e]
theorem xbg(g:List Int):frz (genD g)=genD g:=by
 unfold genD;split
 ·rfl
 ·have:xu (g.map iE)=g.map iE:=by
   rw [xI,List.map_map];exact List.map_congr_left fun _ _=>rfl
  simp only [frz,this]
theorem Vz(b:Bnd)(e:List Bnd):wi (b::e)=.pt [.s (.string b.name),.sl 3 (b.ty.map TyI.enc),genD b.gen,wi e]:=rfl
theorem xan:∀ e:List Bnd,frz (wi e)=wi e
 | []=>rfl
 | b::e=>by
  rw [Vz];simp only [frzL,frz,TyE_frz,xbg,xan e]
theorem xT(e:List Bnd):wi e=.np\/∃ row,wi e=.pt row/\frzL row=row:=by
 cases e with
 | nil=>exact .inl rfl
 | cons b e=>
  refine .inr ⟨_,rfl,?_⟩;simp only [frzL,TyE_frz,frz,xbg,xan e]
theorem con_nil{ts:List MType}{s:IS}{name:ByteArray}{has:Bool}{a:Int}(h:(conI ts s name has a).1.ok=false):(conI ts s name has a).1.own=[]:=by
 rcases wE ts s name has a with ⟨-,e⟩|⟨own,arg,many,_,⟨-,e⟩|⟨-,e⟩⟩
 ·rw [e]
 ·rw [e]
 ·rw [e] at h;cases h
section
variable {ts:List MType} {N:List (List D)}
abbrev XP(ts:List MType)(N:List (List D))(a:Int)(t:PT)(e:List Bnd)(s:IS):Prop:=FT 47 [.opt (fR (ts.map MType.enc) N s),pxE t,wi e,.s (.int .i64 a)] (fun r o=>r=.tup [.sl 3 ((patI ts a t e s).1.map TyI.enc),wi (patI ts a t e s).2.1]/\o=[.opt (fR (ts.map MType.enc) N (patI ts a t e s).2.2),.un,.un,.un])
theorem c_pat1(T:yv ts)(a:Int)(b:PI)(l:List PT)(x:PT)(k:b.kind=4)(hl:l=[x])(ih:∀ (e:List Bnd) (s:IS),OkS s->s.nx+2*x.size<=3000000->XP ts N a x e s)(e:List Bnd)(s:IS)(hs:OkS s)(hn:s.nx+2*(Arb.mk b l).size<=3000000)(ho:okP x):XP ts N a (.mk b l) e s:=by
 subst hl;have hsz:(Arb.mk b [x]).size=1+x.size:=by rw [size_mk,sizeL_cons,sizeL_nil];omega
 have cc:=c_cons (N:=N) T s b.s true a (by omega)
 have S:=YD T s b.s true a;have C:=Yy T s b.s true a;unfold XP;cases hc:(conI ts s b.s true a).1.ok with
 | false=>
  have h1:=UQ (ts:=ts) (at_:=a) (e:=e) (s:=s) (a:=b) (l:=[x]) k (c:=(conI ts s b.s true a).1) (s1:=(conI ts s b.s true a).2) rfl hc;have ho':(conI ts s b.s true a).1.own=[]:=con_nil hc;rw [XY,if_neg (by rw [hc];simp)] at cc
  rw [h1,ho',xX,k];refine FCon.tup1 ?_;rw [xx] at cc ⊢
  rw [xx] at cc ⊢
  rcases xT e with q|⟨row,q,hz⟩
  all_goals
   rw [q];refine FI PM Tryz.func47 Tryz.ntmps47 [(10,10,[8],[(8,0),(8,9)],(lin [8] [0,1,2,3,4,5,6,7,9,8])),(15,19,[12],[],(lin [12] [0,1,2,3,4,5,6,7,8,9,10,11,12,13,14,15,16,17,18]))] rfl rfl ?_
   (have hWf:=f0;repeat' (first|refine zS ?_|refine zI ?_ ?_|refine zX cc ?_|((with_reducible apply xc);refine xh (cc) ?_;rintro _ _ ⟨rfl,rfl⟩)|exact zF0|refine zD fun hb=>?_|exact zC|refine zT ?_|fail))
 | true=>
  have h1:=Z1 (ts:=ts) (at_:=a) (e:=e) (s:=s) (a:=b) (x:=x) k (c:=(conI ts s b.s true a).1) (s1:=(conI ts s b.s true a).2) (s2:=(patI ts a x e (conI ts s b.s true a).2).2.2) (t:=(patI ts a x e (conI ts s b.s true a).2).1) (e2:=(patI ts a x e (conI ts s b.s true a).2).2.1) rfl hc rfl;obtain ⟨c1,c2⟩:=C.1 hc;have c2:=c2 rfl;have al:=C.2.2.2;rw [XY,if_pos hc] at cc
  rw [h1,xX,k];clear h1;generalize conI ts s b.s true a=Q at *
  obtain ⟨c,s1⟩:=Q;dsimp only at *
  have K:=patG T a x ho e s1;have hn1:s1.nx+2*x.size<=3000000:=by have:=S.up;omega
  have os1:=S.ok hs (by omega)
  have hk:=ih e s1 os1 hn1;have Kup:=K.up;have os2:=K.st os1 (by omega)
  have sm:=c_same (T:=ts.map MType.enc) (N:=N) (patI ts a x e s1).2.2 (patI ts a x e s1).1 c.arg a os2 (by omega) (fun hz=>K.ty os1 (by omega) hz) (fun _=>c2.mono K.le) (by have:=K.len;omega) (by omega)
  unfold XP at hk
  generalize patI ts a x e s1=R at *
  obtain ⟨t,e2,s2⟩:=R;dsimp only at *
  obtain ⟨xa,xl,rfl⟩:∃ xa xl,x=.mk xa xl:=⟨_,_,Arb.eta x⟩;rw [xX] at hk
  have hxs:[Arb.mk xa xl].map pxS=[[.pt [.s (.int .i64 xa.kind),.s (.int .i64 xa.n),.s (.string xa.s),.sl 1 (xl.map pxS)]]]:=by rw [List.map_cons,yK];rfl
  rw [hxs];rw [xx] at cc hk sm ⊢
  rw [xx] at cc hk sm ⊢
  rcases xT e with q|⟨row,q,hz⟩
  all_goals
   rw [q] at hk ⊢
   rcases xT e2 with q2|⟨row2,q2,hz2⟩
   all_goals
    rw [q2] at hk ⊢
    refine FI PM Tryz.func47 Tryz.ntmps47 [(10,10,[8],[(8,0),(8,9)],(lin [8] [0,1,2,3,4,5,6,7,9,8])),(15,19,[12],[],(lin [12] [0,1,2,3,4,5,6,7,8,9,10,11,12,13,14,15,16,17,18]))] rfl rfl ?_
    (have hWf:=f0;repeat' (first|refine zS ?_|refine zI ?_ ?_|refine zX cc ?_|((with_reducible apply xc);refine xh (cc) ?_;rintro _ _ ⟨rfl,rfl⟩)|refine zX hk ?_|((with_reducible apply xc);refine xh (hk) ?_;rintro _ _ ⟨rfl,rfl⟩)|refine zX sm ?_|((with_reducible apply xc);refine xh (sm) ?_;rintro _ _ ⟨rfl,rfl⟩)|exact zF0|refine zD fun hb=>?_|exact zC|refine zT ?_|fail))
theorem c_pat2(T:yv ts)(a:Int)(b:PI)(x y:PT)(k:b.kind=5)(ihx:∀ (e:List Bnd) (s:IS),OkS s->s.nx+2*x.size<=3000000->XP ts N a x e s)(ihy:∀ (e:List Bnd) (s:IS),OkS s->s.nx+2*y.size<=3000000->XP ts N a y e s)(hox:okP x)(hoy:okP y)(e:List Bnd)(s:IS)(hs:OkS s)(hn:s.nx+2*(Arb.mk b [x,y]).size<=3000000):XP ts N a (.mk b [x,y]) e s:=by
 have hsz:(Arb.mk b [x,y]).size=1+(x.size+y.size):=by rw [size_mk,sizeL_cons,sizeL_cons,sizeL_nil];omega
 have K:=patG T a x hox e s;have h1:=Z2 (ts:=ts) (at_:=a) (e:=e) (s:=s) (a:=b) (x:=x) (y:=y) k (t1:=(patI ts a x e s).1) (e1:=(patI ts a x e s).2.1) (s1:=(patI ts a x e s).2.2) (t2:=(patI ts a y (patI ts a x e s).2.1 (patI ts a x e s).2.2).1) (e2:=(patI ts a y (patI ts a x e s).2.1 (patI ts a x e s).2.2).2.1) (s2:=(patI ts a y (patI ts a x e s).2.1 (patI ts a x e s).2.2).2.2) rfl rfl;have hx:=ihx e s hs (by omega)
 have Kup:=K.up;have Klen:=K.len;have os1:=K.st hs (by omega)
 have hy:=ihy (patI ts a x e s).2.1 (patI ts a x e s).2.2 os1 (by omega)
 have H:=patG T a y hoy (patI ts a x e s).2.1 (patI ts a x e s).2.2;have Hlen:=H.len;unfold XP at hx hy ⊢
 rw [h1,xX,k];clear h1 K H;generalize patI ts a x e s=R at *
 obtain ⟨t,e1,s1⟩:=R;dsimp only at *
 generalize patI ts a y e1 s1=R2 at *
 obtain ⟨u,e2,s2⟩:=R2;dsimp only at *
 have hc:=xaS [[zA],t,u] (by simp) (by simp only [List.flatten_cons,List.flatten_nil,List.length_append,List.length_cons,List.length_nil];omega)
 have hfl:[[zA],t,u].flatten=zA::(t++u):=by simp
 rw [hfl] at hc
 have hc:FT 100 [.sl 1 [[.sl 3 [[.s (.int .i64 0),.s (.string ⟨#[42]⟩),.s (.int .i64 2)]]],[.sl 3 (t.map TyI.enc)],[.sl 3 (u.map TyI.enc)]]] (fun r _=>r=.osl 143 3 ((zA::(t++u)).map TyI.own)):=hc
 obtain ⟨xa,xl,rfl⟩:∃ xa xl,x=.mk xa xl:=⟨_,_,Arb.eta x⟩;obtain ⟨ya,yl,rfl⟩:∃ ya yl,y=.mk ya yl:=⟨_,_,Arb.eta y⟩;rw [xX] at hx hy
 have hxs:[Arb.mk xa xl,Arb.mk ya yl].map pxS=[[.pt [.s (.int .i64 xa.kind),.s (.int .i64 xa.n),.s (.string xa.s),.sl 1 (xl.map pxS)]],[.pt [.s (.int .i64 ya.kind),.s (.int .i64 ya.n),.s (.string ya.s),.sl 1 (yl.map pxS)]]]:=by rw [List.map_cons,List.map_cons,yK,yK];rfl
 rw [hxs];refine FCon.iceO ?_;rw [xx] at hx hy ⊢
 rw [xx] at hx hy ⊢
 rcases xT e with q|⟨row,q,hz⟩
 all_goals
  rw [q] at hx ⊢
  rcases xT e1 with q1|⟨row1,q1,hz1⟩
  all_goals
   rw [q1] at hx hy
   rcases xT e2 with q2|⟨row2,q2,hz2⟩
   all_goals
    rw [q2] at hy ⊢
    refine FI PM Tryz.func47 Tryz.ntmps47 [(10,10,[8],[(8,0),(8,9)],(lin [8] [0,1,2,3,4,5,6,7,9,8])),(15,19,[12],[],(lin [12] [0,1,2,3,4,5,6,7,8,9,10,11,12,13,14,15,16,17,18]))] rfl rfl ?_
    (have hWf:=f0;repeat' (first|refine zS ?_|refine zI ?_ ?_|refine zX hx ?_|((with_reducible apply xc);refine xh (hx) ?_;rintro _ _ ⟨rfl,rfl⟩)|refine zX hy ?_|((with_reducible apply xc);refine xh (hy) ?_;rintro _ _ ⟨rfl,rfl⟩)|refine zK hc ?_|exact zF0|refine zD fun hb=>?_|exact zC|refine zT ?_|fail))
    all_goals first|exact xP TyI.pure _ _ (zA::(t++u))|rfl
theorem c_pat(T:yv ts)(a:Int):∀ t:PT,okP t->∀ (e:List Bnd) (s:IS),OkS s->s.nx+2*t.size<=3000000 ->
  FT 47 [.opt (fR (ts.map MType.enc) N s),pxE t,wi e,.s (.int .i64 a)] (fun r o=>r=.tup [.sl 3 ((patI ts a t e s).1.map TyI.enc),wi (patI ts a t e s).2.1]/\o=[.opt (fR (ts.map MType.enc) N (patI ts a t e s).2.2),.un,.un,.un]):=fun t=>by
 induction t using Arb.ind with
 | h b l ih=>
  intro ho e s hs hn;have hsz:=size_mk b l;rcases ho.root with ⟨k,hl,-,-⟩|⟨k,hl,-,-⟩|⟨k,hl,-,-,-⟩|⟨k,hl,-,-⟩|⟨c,x,y,k,hl,-,-,-⟩|⟨x,k,hl,-,-⟩|⟨x,y,k,hl,-,-⟩|⟨k,hl,-,-⟩
  ·rw [Z4 k,xX,k]
   have hf:=YM (T:=ts.map MType.enc) (N:=N) s (by omega)
   rw [xx] at hf ⊢
   rw [xx] at hf ⊢
   rcases xT e with q|⟨row,q,hz⟩
   all_goals
    rw [q];refine FI PM Tryz.func47 Tryz.ntmps47 [(10,10,[8],[(8,0),(8,9)],(lin [8] [0,1,2,3,4,5,6,7,9,8])),(15,19,[12],[],(lin [12] [0,1,2,3,4,5,6,7,8,9,10,11,12,13,14,15,16,17,18]))] rfl rfl ?_
    (have hWf:=f0;repeat' (first|refine zS ?_|refine zI ?_ ?_|refine zH hf ?_|exact zF0|refine zD fun hb=>?_|exact zC|refine zT ?_|fail))
  ·rw [US k,xX,k]
   refine FCon.iceO ?_;have hf:=YM (T:=ts.map MType.enc) (N:=N) s (by omega)
   rw [xx] at hf ⊢
   rw [xx] at hf ⊢
   rw [Vz];rcases xT e with q|⟨row,q,hz⟩
   all_goals
    rw [q];refine FI PM Tryz.func47 Tryz.ntmps47 [(10,10,[8],[(8,0),(8,9)],(lin [8] [0,1,2,3,4,5,6,7,9,8])),(15,19,[12],[],(lin [12] [0,1,2,3,4,5,6,7,8,9,10,11,12,13,14,15,16,17,18]))] rfl rfl ?_
    (have hWf:=f0;repeat' (first|refine zS ?_|refine zI ?_ ?_|refine zH hf ?_|exact zF0|refine zD fun hb=>?_|exact zC|refine zT ?_|fail))
    all_goals rfl
  ·have hi:=Um ⟨#[105,110,116]⟩
   rw [UR k,xX,k,xx];refine FCon.iceO ?_;rcases xT e with q|⟨row,q,hz⟩
   all_goals
    rw [q];refine FI PM Tryz.func47 Tryz.ntmps47 [(10,10,[8],[(8,0),(8,9)],(lin [8] [0,1,2,3,4,5,6,7,9,8])),(15,19,[12],[],(lin [12] [0,1,2,3,4,5,6,7,8,9,10,11,12,13,14,15,16,17,18]))] rfl rfl ?_
    (have hWf:=f0;repeat' (first|refine zS ?_|refine zI ?_ ?_|refine zK hi ?_|exact zF0|refine zD fun hb=>?_|exact zC|refine zT ?_|fail))
    all_goals rfl
  ·subst hl
   have cc:=c_cons (N:=N) T s b.s false a (by omega)
   have h1:=Z0 (ts:=ts) (at_:=a) (e:=e) (s:=s) k (c:=(conI ts s b.s false a).1) (s1:=(conI ts s b.s false a).2) rfl;rw [h1,xX,k];cases hc:(conI ts s b.s false a).1.ok with
   | true=>
    rw [XY,if_pos hc] at cc
    rw [xx] at cc ⊢
    rw [xx] at cc ⊢
    rcases xT e with q|⟨row,q,hz⟩
    all_goals
     rw [q];refine FI PM Tryz.func47 Tryz.ntmps47 [(10,10,[8],[(8,0),(8,9)],(lin [8] [0,1,2,3,4,5,6,7,9,8])),(15,19,[12],[],(lin [12] [0,1,2,3,4,5,6,7,8,9,10,11,12,13,14,15,16,17,18]))] rfl rfl ?_
     (have hWf:=f0;repeat' (first|refine zS ?_|refine zI ?_ ?_|refine zX cc ?_|((with_reducible apply xc);refine xh (cc) ?_;rintro _ _ ⟨rfl,rfl⟩)|exact zF0|refine zD fun hb=>?_|exact zC|refine zT ?_|fail))
   | false=>
    have ho':(conI ts s b.s false a).1.own=[]:=con_nil hc;rw [XY,if_neg (by rw [hc];simp)] at cc
    rw [ho'];refine FCon.tup1 ?_;rw [xx] at cc ⊢
    rw [xx] at cc ⊢
    rcases xT e with q|⟨row,q,hz⟩
    all_goals
     rw [q];refine FI PM Tryz.func47 Tryz.ntmps47 [(10,10,[8],[(8,0),(8,9)],(lin [8] [0,1,2,3,4,5,6,7,9,8])),(15,19,[12],[],(lin [12] [0,1,2,3,4,5,6,7,8,9,10,11,12,13,14,15,16,17,18]))] rfl rfl ?_
     (have hWf:=f0;repeat' (first|refine zS ?_|refine zI ?_ ?_|refine zX cc ?_|((with_reducible apply xc);refine xh (cc) ?_;rintro _ _ ⟨rfl,rfl⟩)|exact zF0|refine zD fun hb=>?_|exact zC|refine zT ?_|fail))
  ·exact c_pat1 T a b l _ k hl (fun e s hs hn=>ih _ (by rw [hl];exact List.mem_singleton.2 rfl) (ho.kid _ (by rw [hl];exact List.mem_singleton.2 rfl)) e s hs hn) e s hs hn (ho.kid _ (by rw [hl];exact List.mem_singleton.2 rfl))
  ·exact c_pat1 T a b l _ k hl (fun e s hs hn=>ih _ (by rw [hl];exact List.mem_singleton.2 rfl) (ho.kid _ (by rw [hl];exact List.mem_singleton.2 rfl)) e s hs hn) e s hs hn (ho.kid _ (by rw [hl];exact List.mem_singleton.2 rfl))
  ·subst hl
   exact c_pat2 T a b x y k (ih x (by simp) (ho.kid x (by simp))) (ih y (by simp) (ho.kid y (by simp))) (ho.kid x (by simp)) (ho.kid y (by simp)) e s hs hn
  ·have hi:=Um ⟨#[117,110,105,116]⟩
   rw [Z3 k,xX,k,xx];refine FCon.iceO ?_;rcases xT e with q|⟨row,q,hz⟩
   all_goals
    rw [q];refine FI PM Tryz.func47 Tryz.ntmps47 [(10,10,[8],[(8,0),(8,9)],(lin [8] [0,1,2,3,4,5,6,7,9,8])),(15,19,[12],[],(lin [12] [0,1,2,3,4,5,6,7,8,9,10,11,12,13,14,15,16,17,18]))] rfl rfl ?_
    (have hWf:=f0;repeat' (first|refine zS ?_|refine zI ?_ ?_|refine zK hi ?_|exact zF0|refine zD fun hb=>?_|exact zC|refine zT ?_|fail))
    all_goals rfl
end
theorem itemM_v{x:TyI}(h:xR x=true)(hv:varB x=true):0<=x.v/\x.ar=0:=by
 unfold varB at hv
 unfold xR at h
 rw [if_pos hv] at h
 simp only [Bool.and_eq_true,beq_iff_eq,decide_eq_true_eq] at h
 exact ⟨h.1.1,h.2⟩
theorem tyOkM_G{xs:List TyI}(h:wc xs=true):wfV xs/\xs.length<=200/\∀ x∈xs,xR x=true:=by
 unfold wc y7 at h
 simp only [Bool.and_eq_true,decide_eq_true_eq,List.all_eq_true] at h
 exact ⟨⟨(xbJ xs).2 h.2.2,fun x hx=>Y0 (h.2.1 x hx),fun x hx hv=>(itemM_v (h.2.1 x hx) hv).2⟩,h.1,h.2.1⟩
theorem Yb{p:MProgram}(h:yq p=true):yv p.types:=by
 unfold yq at h
 simp only [Bool.and_eq_true,decide_eq_true_eq,List.all_eq_true] at h
 obtain ⟨⟨⟨⟨_,hl⟩,ht⟩,_⟩,_⟩:=h;have ht':∀ t∈p.types,yn t.name=true/\0<=t.params/\t.params<=2/\t.cons.length<=8/\∀ c∈t.cons,ye t.params c=true:=fun t hx=>by
  have:=ht t hx;unfold yI at this
  simp only [Bool.and_eq_true,decide_eq_true_eq,List.all_eq_true] at this
  exact ⟨this.1.1.1.1.1,this.1.1.1.1.2,this.1.1.1.2,this.1.2,this.2⟩
 have hc:∀ t∈p.types,∀ c∈t.cons,(c.has=true->TyG t.params.toNat c.arg/\c.arg.length<=200)/\(c.has=false->c.arg=[]):=fun t hx c hc=>by
  obtain ⟨_,p0,_,_,q⟩:=ht' t hx;have:=q c hc;unfold ye at this
  rw [Bool.and_eq_true] at this
  have h2:=this.2
  constructor
  ·intro hh
   rw [if_pos hh,Bool.and_eq_true,List.all_eq_true] at h2
   obtain ⟨g1,g2,g3⟩:=tyOkM_G h2.1;refine ⟨⟨g1,fun x hx=>⟨fun hv=>?_,fun _=>g3 x hx⟩⟩,g2⟩
   have:=h2.2 x hx;have hv':x.name.toList.isEmpty=true:=hv;rw [hv',Bool.true_and] at this
   have:¬ t.params<=x.v:=by simpa using this
   exact ⟨(itemM_v (g3 x hx) hv).1,by omega⟩
  ·intro hh
   rw [if_neg (by rw [hh];simp)] at h2
   exact List.length_eq_zero_iff.1 (of_decide_eq_true h2)
 exact ⟨hl,fun t h=>(ht' t h).1,fun t h=>⟨(ht' t h).2.1,(ht' t h).2.2.1⟩,fun t h=>(ht' t h).2.2.2.1,fun t h c hx=>(hc t h c hx).1,fun t h c hx=>(hc t h c hx).2⟩
structure TreeOf(nodes:List DPNode)(t:PT):Prop where
 at0:At PI.node nodes 0 t
 lay:nodes=Arb.lay PI.node 0 t
 ok:okP t
 sz:t.size<=600
theorem tree_ex{nodes:List DPNode}(h:patM nodes=true):∃ t,TreeOf nodes t:=by
 obtain ⟨t,h1,h2,h3⟩:=ptree_of h;exact ⟨t,by rw [h1];exact At.zero t,h1,h2,h3⟩
open Classical in
noncomputable def xg(q:MPat):PT:=if h:∃ t,TreeOf q.nodes t then Classical.choose h else .mk ⟨1,0,⟨#[]⟩⟩ []
theorem wT{q:MPat}(h:patM q.nodes=true):TreeOf q.nodes (xg q):=by
 have:=tree_ex h;unfold xg;rw [dif_pos this];exact Classical.choose_spec this
structure Xx(p:MProgram)(l:List MPat):Prop where
 prog:yq p=true
 chk:AllI p.types
 ne:l≠[]
 pats:∀ q∈l,patM q.nodes=true
theorem Vs{ts:List MType}{q:PT}{r:List PT}{s s1:IS}{ty:List TyI}{e1:List Bnd}(e:patI ts 0 q [] s=(ty,e1,s1)):xL ts (q::r) none s=if s1.code≠0 then ([],s1) else xL ts r (some ty) s1:=by rw [xL,e]
theorem Vt{ts:List MType}{q:PT}{r:List PT}{s s1:IS}{t0 ty:List TyI}{e1:List Bnd}(e:patI ts 0 q [] s=(ty,e1,s1)):xL ts (q::r) (some t0) s=if s1.code≠0 then (t0,s1) else if (xD s1 t0 ty 0).code≠0 then (t0,xD s1 t0 ty 0) else xL ts r (some t0) (xD s1 t0 ty 0):=by rw [xL,e]
def is0:IS:=⟨[],0,0,0⟩
theorem XC:OkS is0:=fun _=>⟨GoodL.nil _,by show 0+unb (rngV 0) []<=0;exact Nat.le_refl _⟩
noncomputable def vg(p:MProgram)(l:List MPat):List TyI×Int:=zd (xL p.types (l.map xg) none is0).2 (xL p.types (l.map xg) none is0).1
theorem vC{l:List MPat}(h:∀ q∈l,patM q.nodes=true):∀ t∈l.map xg,okP t:=fun t ht=>by
 obtain ⟨q,hq,rfl⟩:=List.mem_map.1 ht;exact (wT (h q hq)).ok
theorem treeP_len{q:MPat}(h:patM q.nodes=true):(xg q).size=q.nodes.length:=by
 have:=congrArg List.length (wT h).lay;rw [Arb.lay_len] at this
 exact this.symm
theorem uz{l:List MPat}(h:∀ q∈l,patM q.nodes=true):sizeL (l.map xg)<=cnts (fun q:MPat=>q.nodes.length) l:=by
 induction l with
 | nil=>exact Nat.zero_le _
 | cons q l ih=>
  have:=treeP_len (h q (by simp))
  have:=ih fun x hx=>h x (List.mem_cons_of_mem _ hx)
  rw [List.map_cons,sizeL_cons];show _<=q.nodes.length+cnts _ l;omega
end
section
open Go.RowKit
theorem U7(xs:List TyI)(hne:0<xs.length)(hl:xs.length<=1000000000):FT 153 [.sl 3 (xs.map TyI.enc)] (fun r _=>r=.osl 143 3 (xs.map TyI.own)):=by
 have he:(xs.map TyI.enc).isEmpty=false:=by cases xs with|nil=>simp at hne|cons _ _=>rfl
 refine FI PM Tryz.func153 Tryz.ntmps153 [] rfl rfl ?_
 (have hWf:=w1 @he;repeat' (first|refine zS ?_|refine zI ?_ ?_|exact zF0|refine zD fun hb=>?_|exact zC|refine zT ?_|fail))
 all_goals exact ⟨_,rfl⟩
theorem QK:∀ (l:List Int) (v:Int),v∈l->fidx (fun x=>v==x) l=(idxN l v:Nat)
 | [],v,h=>by cases h
 | y::l,v,h=>by
  by_cases e:y=v
  ·subst e
   rw [fidx,if_pos (by simp),idxN,if_pos rfl];rfl
  ·have hm:v∈l:=by
    rcases List.mem_cons.1 h with q|q
    ·exact absurd q.symm e
    ·exact q
   have ih:=QK l v hm;have e':¬ (v==y)=true:=by simp;exact fun q=>e q.symm
   rw [fidx,if_neg e',ih,if_neg (by omega),idxN,if_neg e];rfl
def mixC(xs:List TyI)(k:Nat):List TyI:=(yu xs).take k++xs.drop k
theorem canonM_len'(xs:List TyI):(yu xs).length=xs.length:=by simp [yu]
theorem UE(xs:List TyI){k:Nat}(h:k<=xs.length):(mixC xs k).length=xs.length:=by
 unfold mixC;rw [List.length_append,List.length_take,List.length_drop,canonM_len'];omega
theorem mixC_zero(xs:List TyI):mixC xs 0=xs:=by simp [mixC]
theorem mixC_all(xs:List TyI):mixC xs xs.length=yu xs:=by
 unfold mixC;rw [List.drop_length,List.append_nil,<- canonM_len',List.take_length]
theorem mixC_at(xs:List TyI){k:Nat}(h:k<xs.length):(mixC xs k)[k]'(by rw [UE xs (by omega)];exact h)=xs[k]:=by
 have h1:((yu xs).take k).length=k:=by rw [List.length_take,canonM_len'];omega
 have e:(mixC xs k)[k]?=some xs[k]:=by
  unfold mixC;rw [List.getElem?_append_right (by omega),h1,Nat.sub_self,List.getElem?_drop,Nat.add_zero,List.getElem?_eq_getElem h]
 exact (List.getElem?_eq_some_iff.1 e).2
theorem xbs(xs:List TyI){k:Nat}(h:k<xs.length):(mixC xs k).set k (yJ (xp xs) xs[k])=mixC xs (k+1):=by
 have h1:((yu xs).take k).length=k:=by rw [List.length_take,canonM_len'];omega
 have h2:(yu xs)[k]'(by rw [canonM_len'];exact h)=yJ (xp xs) xs[k]:=by simp [yu]
 unfold mixC;rw [List.set_append_right _ _ (by omega),h1,Nat.sub_self,List.drop_eq_getElem_cons h,List.set_cons_zero,List.take_succ_eq_append_getElem (by rw [canonM_len'];exact h),h2]
 simp
theorem mixC_same(xs:List TyI){k:Nat}(h:k<xs.length)(hb:varB xs[k]=false):mixC xs (k+1)=mixC xs k:=by
 rw [<- xbs xs h];have e:yJ (xp xs) xs[k]=xs[k]:=by unfold yJ;rw [if_neg (by rw [hb];simp)]
 rw [e];have e2:(mixC xs k).set k ((mixC xs k)[k]'(by rw [UE xs (by omega)];exact h))=mixC xs k:=List.set_getElem_self _
 rw [mixC_at xs h] at e2
 exact e2
theorem c_canon(xs:List TyI)(hne:0<xs.length)(hl:xs.length<=1000000):FT 105 [.sl 3 (xs.map TyI.enc)] (fun r _=>r=.ag [.osl 143 3 ((yu xs).map TyI.own)]):=by
 have hvl:=varsM_len' xs;refine FI PM Tryz.func105 Tryz.ntmps105 [] rfl rfl ?_
 (have hWf:=f0;repeat' (first|refine zS ?_|refine zI ?_ ?_|((with_reducible apply xc);refine zG (vr xs (by omega)) ?_)|refine zU (vr xs (by omega)) ?_|((with_reducible apply xc);refine zG (U7 xs hne (by omega)) ?_)|refine zU (U7 xs hne (by omega)) ?_|exact zF0|refine zD fun hb=>?_|exact zC|refine zT ?_|fail))
 refine xd (fun n σ=>∃ k:Nat,k<=xs.length/\n=xs.length - k/\σ.t 2=.bx 2 0/\σ.b 2=some (.box [.nil])/\σ.t 3=.bs 1008 1 (xp xs).length/\σ.b 1008=some (.arr 3 1 ((xp xs).map iE))/\σ.t 4=.bs 1010 3 xs.length/\σ.b 1010=some (.arr 143 3 ((mixC xs k).map TyI.own))/\σ.t 11=.bs 1010 3 xs.length/\σ.t 12=.s (.int .i64 xs.length)/\σ.t 13=.s (.int .i64 k)) xs.length ⟨0,by omega,by omega,?_⟩ ?_
 ·simp only [go_sem,simprocAttr,Int.natCast_zero,mixC_zero]
  all_goals trace_state
 ·rintro n σ ⟨k,hk,rfl,h2,hb2,h3,hb3,h4,hb4,h11,h12,h13⟩ K' hK
  by_cases hlt:k<xs.length
  ·have hml:=UE xs hk
   have hx:=xb TyI.own (mixC xs k) k (by omega)
   rw [mixC_at xs hlt] at hx
   have he:=TyI.own_eq xs[k];have hml':((mixC xs k).map TyI.own).length=xs.length:=by simp [hml]
   cases hvb:varB xs[k] with
   | false=>
    have e1:(xs[k].name.toList==[])=false:=by unfold varB at hvb;simpa using hvb
    have hsame:=mixC_same xs hlt hvb
    (have hWf:=w10 @h2 @hb2 @h3 @hb3 @h4 @hb4 @h11 @h12 @h13 (ai @hx<|ai @he<|ai @hml'<|ai @lit0<|@e1);repeat' (first|refine zS ?_|refine zI ?_ ?_|exact zF0|refine zD fun hb=>?_|exact zC|refine zT ?_|fail))
    refine hK (xs.length - (k+1)) _ (by omega) ⟨k+1,by omega,rfl,?_⟩
    simp only [go_sem,simprocAttr,h2,hb2,h3,hb3,h4,hb4,h11,h12,h13,Int.natCast_succ,hsame]
    all_goals trace_state
   | true=>
    have e1:(xs[k].name.toList==[])=true:=by unfold varB at hvb;simpa using hvb
    have hm:xs[k].v∈xp xs:=(varsM_mem' _ _).2 ⟨_,List.getElem_mem hlt,hvb,rfl⟩;have hfi:=QK _ _ hm;have hci:=idxN_le (xp xs) xs[k].v
    (have hWf:=w10 @h2 @hb2 @h3 @hb3 @h4 @hb4 @h11 @h12 @h13 (ai @hx<|ai @he<|ai @hml'<|ai @lit0<|ai @e1<|@hfi);repeat' (first|refine zS ?_|refine zI ?_ ?_|refine zK (WR (xp xs) xs[k].v) ?_|exact zF0|refine zD fun hb=>?_|exact zC|refine zT ?_|fail))
    refine hK (xs.length - (k+1)) _ (by omega) ⟨k+1,by omega,rfl,?_⟩
    simp only [go_sem,simprocAttr,h2,hb2,h3,hb3,h4,hb4,h11,h12,h13,Int.natCast_succ];exact congrArg (Ob.arr _ 3) (by rw [<- xbs xs hlt,List.map_set];congr 1;unfold yJ;rw [if_pos hvb];rfl)
  ·obtain rfl:k=xs.length:=by omega
   rw [mixC_all] at hb4
   have hcl:=canonM_len' xs;have hcl':((yu xs).map TyI.own).length=xs.length:=by simp [hcl]
   (have hWf:=w10 @h2 @hb2 @h3 @hb3 @h4 @hb4 @h11 @h12 @h13 (ai @hcl<|@hcl');repeat' (first|refine zS ?_|refine zI ?_ ?_|exact zF0|refine zD fun hb=>?_|exact zC|refine zT ?_|fail))
   all_goals trace_state
end
section
open Go.RowKit Arb
theorem FCon.tupO1{P:Program}{f:FuncId}{args o:List D}{e k:Nat}{l:List D}(h:FCon P f args (fun r o'=>r=.tup (.ag [.nil]::l)/\o'=o)):FCon P f args (fun r o'=>r=.tup (.ag [.osl e k []]::l)/\o'=o):=h.wk fun r o' q=>by
 obtain ⟨rfl,rfl⟩:=q;refine ⟨_,⟨rfl,rfl⟩,fun g w v hv=>YH (xs:=.ag [.nil]::l) (xs':=.ag [.osl e k []]::l) rfl (fun m x x' hx hx' u hu=>?_) hv⟩
 cases m with
 | zero=>
  have hx:D.ag [.nil]=x:=by simpa using hx
  have hx':D.ag [.osl e k []]=x':=by simpa using hx'
  subst hx hx';obtain ⟨us,rfl,hl,hc⟩:=hu;refine ⟨us,rfl,by simpa using hl,fun i y z hy hz=>?_⟩
  match i,hy with
  | 0,hy=>
   have hy:D.osl e k []=y:=by simpa using hy
   subst hy;exact Rep.nil_osl e k (hc 0 _ z rfl hz)
  | i+1,hy=>simp at hy
 | succ m=>
  have e:x=x':=by rw [List.getElem?_cons_succ] at hx hx';rw [hx] at hx';exact Option.some.inj hx'
  rw [<- e];exact hu
section
variable {T N:List (List D)}
theorem c_toldF(s:IS)(d:D)(hd:d=.nil\/∃ rows,d=.sl 3 rows)(h:s.code≠0):FT 50 [.opt (fR T N s),d] (fun r o=>r=.tup [.ag [.osl 143 3 []],.s (.int .i64 s.code),.s (.int .i64 s.at_)]/\o=[.opt (fR T N s),.un]):=by
 refine FCon.tupO1 ?_;have e:(s.code != 0)=true:=by simpa using h
 rw [xx];rcases hd with rfl|⟨rows,rfl⟩
 all_goals
  refine FI PM Tryz.func50 Tryz.ntmps50 [(2,11,[9],[(9,1),(9,2),(9,3),(9,4),(9,5),(9,6),(9,7),(9,8)],(lin [9] [0,1,2,3,4,5,6,7,8,9,10]))] rfl rfl ?_
  (have hWf:=w1 @e;repeat' (first|refine zS ?_|refine zI ?_ ?_|exact zF0|refine zD fun hb=>?_|exact zC|refine zT ?_|fail))
  all_goals trace_state
theorem c_told(s:IS)(t:List TyI)(h:s.code=0)(hs:OkS s)(ht:TyG s.nx t)(lt:t.length<=10000000):FT 50 [.opt (fR T N s),.sl 3 (t.map TyI.enc)] (fun r o=>r=.tup [.ag [.osl 143 3 ((zd s t).1.map TyI.own)],.s (.int .i64 (zd s t).2),.s (.int .i64 0)]/\o=[.opt (fR T N s),.un]):=by
 have e:(s.code != 0)=false:=by simp [h]
 have G:=hs h;have bx:=z9 (l:=s.l) (B:=200) (by omega) G.g.len t
 have px:=Xc t s.l (by omega) (by omega)
 have gx:=uY (putX s.l t);have hp:=(G.g.put ht.wf).pos;unfold zd;rw [if_neg (by omega)]
 by_cases h1:200<(putX s.l t).length
 ·rw [if_pos h1]
  have f1:decide (((putX s.l t).length:Int)>200)=true:=by rw [gx];exact decide_eq_true h1
  refine FCon.tupO1 ?_;rw [xx];refine FI PM Tryz.func50 Tryz.ntmps50 [(2,11,[9],[(9,1),(9,2),(9,3),(9,4),(9,5),(9,6),(9,7),(9,8)],(lin [9] [0,1,2,3,4,5,6,7,8,9,10]))] rfl rfl ?_
  (have hWf:=w2 @e @f1;repeat' (first|refine zS ?_|refine zI ?_ ?_|refine zK px ?_|exact zF0|refine zD fun hb=>?_|exact zC|refine zT ?_|fail))
  all_goals trace_state
 ·rw [if_neg h1]
  have f1:decide (((putX s.l t).length:Int)>200)=false:=by rw [gx];exact decide_eq_false h1
  have cc:=c_canon (putX s.l t) hp (by omega)
  rw [xx];refine FI PM Tryz.func50 Tryz.ntmps50 [(2,11,[9],[(9,1),(9,2),(9,3),(9,4),(9,5),(9,6),(9,7),(9,8)],(lin [9] [0,1,2,3,4,5,6,7,8,9,10]))] rfl rfl ?_
  (have hWf:=w2 @e @f1;repeat' (first|refine zS ?_|refine zI ?_ ?_|refine zK px ?_|refine zK cc ?_|exact zF0|refine zD fun hb=>?_|exact zC|refine zT ?_|fail))
  all_goals trace_state
end
def firD:Option (List TyI)->D
 | none=>.nil
 | some t=>.sl 3 (t.map TyI.enc)
theorem firD_none:firD none=.nil:=rfl
theorem vT(t:List TyI):firD (some t)=.sl 3 (t.map TyI.enc):=rfl
theorem Qt(q:MPat)(ho:q.ok)(hs:q.sm):FT 45 [.ag q.enc] (fun r _=>r=.s (.bool (!patM q.nodes))):=by
 have h:=WT q.nodes ho hs;rw [MPat.enc_eq];refine FI PM Tryz.func45 Tryz.ntmps45 [] rfl rfl ?_
 (have hWf:=f0;repeat' (first|refine zS ?_|refine zI ?_ ?_|refine zK h ?_|exact zF0|refine zD fun hb=>?_|exact zC|refine zT ?_|fail))
theorem VM(p:MProgram)(l:List MPat)(ho:p.ok)(hs:p.sm)(hol:∀ q∈l,q.ok)(hsl:smS MPat.sm l)(hck:FT 43 [.ag p.enc] (fun r _=>∃ z i:Int,r=.tup [.s (.int .i64 z),.s (.int .i64 i)]/\(z=0 ↔ yq p=true/\AllI p.types)))(h:¬ Xx p l):FT 13 [.ag p.enc,.sl 1 (l.map MPat.enc)] (fun r _=>r=.tup [.ag [.osl 143 3 []],.s (.int .i64 1)]):=by
 have hl:=hsl.1;have hcf:=wA l 45 [] rfl (fun q=>!patM q.nodes) (fun q hq=>Qt q (hol q hq) (hsl.2 q hq))
 refine FCon.mono (Rs:=fun r o=>r=.tup [.ag [.osl 143 3 []],.s (.int .i64 1)]/\o=[]) (FCon.tupO1 (FCon.noout ?_)) fun r o q=>q.1
 rw [MProgram.enc_eq] at hck ⊢
 refine FI PM Tryz.func13 Tryz.ntmps13 [] rfl rfl ?_
 iterate 2 (refine xj ?_;simp only [go_sem,simprocAttr];(have hWf:=f0;repeat' (first|refine zY ?_|refine zI ?_ ?_|((with_reducible apply xc);refine xh (hck) ?_;rintro _ _ ⟨z,i,rfl,hz⟩)|refine zU hck ?_|exact zF1|refine zD fun hb=>?_|exact zC|refine zT ?_|fail)))
 have hll:(l.map MPat.enc).length=l.length:=List.length_map _
 by_cases hz0:z=0
 ·obtain ⟨hp,hA⟩:=hz.1 hz0
  subst hz0;cases he:l.isEmpty with
  | true=>
   obtain rfl:=List.isEmpty_iff.1 he
   (have hWf:=f0;repeat' (first|refine zS ?_|refine zI ?_ ?_|exact zF0|refine zD fun hb=>?_|exact zC|refine zT ?_|fail))
   all_goals trace_state
  | false=>
   have hne:l≠[]:=fun e=>by rw [e] at he;cases he
   have e1:((l.length:Int)==0)=false:=by
    have:=List.length_pos_iff.2 hne;rw [beq_eq_false_iff_ne];omega
   have hany:l.any (fun q=>!patM q.nodes)=true:=by
    cases hh:l.any (fun q=>!patM q.nodes) with
    | true=>rfl
    | false=>
     refine absurd ⟨hp,hA,hne,fun q hq=>?_⟩ h
     have:=List.any_eq_false.1 hh q hq
     simpa using this
   rw [hany] at hcf
   (have hWf:=w1 @e1;repeat' (first|refine zS ?_|refine zI ?_ ?_|refine zK hcf ?_|exact zF0|refine zD fun hb=>?_|exact zC|refine zT ?_|fail))
   all_goals trace_state
 ·have e0:(z != 0)=true:=by simpa using hz0
  (have hWf:=w1 @e0;repeat' (first|refine zS ?_|refine zI ?_ ?_|exact zF0|refine zD fun hb=>?_|exact zC|refine zT ?_|fail))
  all_goals trace_state
theorem xax(p:MProgram)(l:List MPat)(ho:p.ok)(hs:p.sm)(hol:∀ q∈l,q.ok)(hsl:smS MPat.sm l)(hsz:cnts (fun q:MPat=>q.nodes.length) l<=1048576)(hck:FT 43 [.ag p.enc] (fun r _=>∃ z i:Int,r=.tup [.s (.int .i64 z),.s (.int .i64 i)]/\(z=0 ↔ yq p=true/\AllI p.types)))(h:Xx p l):FT 13 [.ag p.enc,.sl 1 (l.map MPat.enc)] (fun r _=>r=.tup [.ag [.osl 143 3 ((vg p l).1.map TyI.own)],.s (.int .i64 (vg p l).2)]):=by
 have hl:=hsl.1;have hcf:=wA l 45 [] rfl (fun q=>!patM q.nodes) (fun q hq=>Qt q (hol q hq) (hsl.2 q hq))
 have hany:l.any (fun q=>!patM q.nodes)=false:=List.any_eq_false.2 fun q hq=>by rw [h.pats q hq];simp
 rw [hany] at hcf
 have T:=Yb h.prog;have hpos:=List.length_pos_iff.2 h.ne;have e1:((l.length:Int)==0)=false:=by rw [beq_eq_false_iff_ne];omega
 have hts:=uz h.pats;have hok:=vC h.pats;rw [MProgram.enc_eq] at hck ⊢
 refine FI PM Tryz.func13 Tryz.ntmps13 [] rfl rfl ?_
 iterate 2 (refine xj ?_;simp only [go_sem,simprocAttr];(have hWf:=f0;repeat' (first|refine zY ?_|refine zI ?_ ?_|((with_reducible apply xc);refine xh (hck) ?_;rintro _ _ ⟨z,i,rfl,hz⟩)|refine zU hck ?_|exact zF1|refine zD fun hb=>?_|exact zC|refine zT ?_|fail)))
 obtain rfl:z=0:=hz.2 ⟨h.prog,h.chk⟩
 (have hWf:=w1 @e1;repeat' (first|refine zS ?_|refine zI ?_ ?_|refine zK hcf ?_|exact zF0|refine zD fun hb=>?_|exact zC|refine zT ?_|fail))
 refine vQ (Yt 36 2 3000036 (row:=[.sl 3 (p.types.map MType.enc),.sl 6 (p.nodes.map MNode.enc),.nil,.s (.int .i64 0),.s (.int .i64 0),.s (.int .i64 0)]) 160 2 (by simp only [go_sem,simprocAttr]) rfl (by decide) rfl (xj ?_))
 simp only [go_sem,simprocAttr];refine xd (fun n σ=>∃ (k:Nat) (f:Option (List TyI)) (s:IS),k<=l.length/\n=l.length - k/\(f=none ↔ k=0)/\OkS s/\s.code=0/\s.nx+2*sizeL ((l.drop k).map xg)<=3000000/\(∀ t,f=some t->TyG s.nx t/\t.length<=1800)/\xL p.types ((l.drop k).map xg) f s=xL p.types (l.map xg) none is0/\σ.t 1=.sl 1 (l.map MPat.enc)/\σ.t 4=.bx 4 0/\σ.b 4=some (.box [.nil])/\σ.t 8=.bx 36 0/\σ.b 36=some (.box [.sl 3 (p.types.map MType.enc),.sl 6 (p.nodes.map MNode.enc),.bs 3000036 2 s.l.length,.s (.int .i64 s.nx),.s (.int .i64 s.code),.s (.int .i64 s.at_)])/\σ.b 3000036=some (.arr 160 2 (s.l.map SubM.enc))/\σ.t 9=firD f/\σ.t 37=.sl 1 (l.map MPat.enc)/\σ.t 38=.s (.int .i64 l.length)/\σ.t 39=.s (.int .i64 k)) l.length ⟨0,none,is0,by omega,by omega,by simp,XC,rfl,(by show 0+2*_<=_;rw [List.drop_zero];omega),nofun,by rw [List.drop_zero],?_⟩ ?_
 ·simp only [go_sem,simprocAttr,Int.natCast_zero]
  exact ⟨rfl,rfl,rfl⟩
 ·rintro n σ ⟨k,f,s,hk,rfl,hfk,hs0,hc0,hnx,hft,hrun,h1,h4,b4,h8,b36,b30,h9,h37,h38,h39⟩ K' hK
  have hfin:∀ Q,xL p.types ((l.drop k).map xg) f s=Q->vg p l=zd Q.2 Q.1:=fun Q e=>by unfold vg;rw [<- hrun,e]
  by_cases hlt:k<l.length
  ·have hmem:=List.getElem_mem hlt
   have hq:=h.pats _ hmem;have hx:=xb MPat.enc l k hlt;have he:=MPat.enc_eq l[k];have hT:=wT hq;have hqs:=(XG hq).2;have hdr:(l.drop k).map xg=xg l[k]::(l.drop (k+1)).map xg:=by rw [List.drop_eq_getElem_cons hlt,List.map_cons]
   rw [hdr,sizeL_cons] at hnx
   rw [hdr] at hrun hfin
   have cg:=Qu l[k].nodes (by omega) (xg l[k]) 0 hT.at0
   have cp:=c_pat (N:=p.nodes.map MNode.enc) T 0 (xg l[k]) hT.ok [] s hs0 (by omega)
   have G:=patG T 0 (xg l[k]) hT.ok [] s;have Gup:=G.up;have Gok:=G.st hs0 (by omega)
   have Gty:=fun hz=>G.ty hs0 (by omega) hz
   have Gle:=G.le;have Glen:=G.len;have hsz6:=hT.sz;clear hq hT;generalize l[k]=q at *
   generalize hP:patI p.types 0 (xg q) [] s=P at *
   obtain ⟨ty,e1,s1⟩:=P;dsimp only at cp Gup Gok Gty Gle Glen
   obtain ⟨xa,xl,hxt⟩:∃ xa xl,xg q=.mk xa xl:=⟨_,_,Arb.eta _⟩;rw [hxt,xX] at cg cp
   have cp:FT 47 [.opt (fR (p.types.map MType.enc) (p.nodes.map MNode.enc) s),.pt [.s (.int .i64 xa.kind),.s (.int .i64 xa.n),.s (.string xa.s),.sl 1 (xl.map pxS)],.np,.s (.int .i64 0)] (fun r o=>r=.tup [.sl 3 (ty.map TyI.enc),wi e1]/\o=[.opt (fR (p.types.map MType.enc) (p.nodes.map MNode.enc) s1),.un,.un,.un]):=cp
   by_cases hz:s1.code=0
   ·have e0:(s1.code != 0)=false:=by simp [hz]
    cases f with
    | none=>
     obtain rfl:k=0:=hfk.1 rfl;rw [Nat.zero_add] at hnx hrun
     have hstep:=Vs (r:=(l.drop 1).map xg) hP;rw [if_neg (by omega)] at hstep
     simp only [xx] at cp
     rcases xT e1 with qe|⟨row,qe,-⟩
     all_goals
      rw [qe] at cp
      (have hWf:=w10 @h1 @h4 @b4 @h8 @b36 @b30 @h9 @h37 @h38 (ai @h39<|ai @hx<|ai @he<|ai @e0<|@firD_none);repeat' (first|refine zS ?_|refine zI ?_ ?_|refine zK cg ?_|refine zH cp ?_|exact zF0|refine zD fun hb=>?_|exact zC|refine zT ?_|fail))
      refine hK (l.length - 1) _ (by omega) ⟨1,some ty,s1,by omega,rfl,by simp,Gok,hz,by omega,fun t e=>by injection e with e;subst e;exact ⟨Gty hz,by omega⟩,by rw [<- hrun,hstep],?_⟩
      simp only [go_sem,simprocAttr,h1,h4,b4,h8,b36,b30,h9,h37,h38,h39,vT]
      all_goals trace_state
    | some t0=>
     obtain ⟨t0G,t0l⟩:=hft t0 rfl;have hk0:k≠0:=fun e=>by have:=hfk.2 e;cases this
     have ek:((k:Int)==0)=false:=by rw [beq_eq_false_iff_ne];omega
     have hstep:=Vt (r:=(l.drop (k+1)).map xg) (t0:=t0) hP;rw [if_neg (by omega)] at hstep
     have cs:=c_same (T:=p.types.map MType.enc) (N:=p.nodes.map MNode.enc) s1 t0 ty 0 Gok (by omega) (fun _=>t0G.mono Gle) Gty (by omega) (by omega)
     have hnx2:=wa s1 t0 ty 0;have ok2:=(uy 0 Gok (by omega) (fun _=>t0G.mono Gle) Gty).ok Gok (by omega)
     generalize xD s1 t0 ty 0=s2 at *
     by_cases hz2:s2.code=0
     ·rw [if_neg (by omega)] at hstep
      rw [decide_eq_true hz2] at cs
      simp only [xx] at cp cs
      rcases xT e1 with qe|⟨row,qe,-⟩
      all_goals
       rw [qe] at cp
       (have hWf:=w10 @h1 @h4 @b4 @h8 @b36 @b30 @h9 @h37 @h38 (ai @h39<|ai @hx<|ai @he<|ai @e0<|ai @ek<|@vT);repeat' (first|refine zS ?_|refine zI ?_ ?_|refine zK cg ?_|refine zH cp ?_|refine zH cs ?_|exact zF0|refine zD fun hb=>?_|exact zC|refine zT ?_|fail))
       refine hK (l.length - (k+1)) _ (by omega) ⟨k+1,some t0,s2,by omega,rfl,by simp,ok2,hz2,by omega,fun t e=>by injection e with e;subst e;exact ⟨by rw [hnx2];exact t0G.mono Gle,t0l⟩,by rw [<- hrun,hstep],?_⟩
       simp only [go_sem,simprocAttr,h1,h4,b4,h8,b36,b30,h9,h37,h38,h39,vT,Int.natCast_succ]
       all_goals trace_state
     ·rw [if_pos hz2] at hstep
      rw [decide_eq_false hz2] at cs
      have hR:=hfin _ hstep;have hR:vg p l=([],s2.code):=by rw [hR];unfold zd;rw [if_pos hz2]
      rw [hR];have ct:=c_toldF (T:=p.types.map MType.enc) (N:=p.nodes.map MNode.enc) s2 (.sl 3 (t0.map TyI.enc)) (.inr ⟨_,rfl⟩) hz2;simp only [xx] at cp cs ct
      rcases xT e1 with qe|⟨row,qe,-⟩
      all_goals
       rw [qe] at cp
       (have hWf:=w10 @h1 @h4 @b4 @h8 @b36 @b30 @h9 @h37 @h38 (ai @h39<|ai @hx<|ai @he<|ai @e0<|ai @ek<|@vT);repeat' (first|refine zS ?_|refine zI ?_ ?_|refine zK cg ?_|refine zH cp ?_|refine zH cs ?_|refine zH ct ?_|exact zF0|refine zD fun hb=>?_|exact zC|refine zT ?_|fail))
       all_goals trace_state
   ·have e0:(s1.code != 0)=true:=by simpa using hz
    have hR:vg p l=([],s1.code):=by
     cases f with
     | none=>
      have hstep:=Vs (r:=(l.drop (k+1)).map xg) hP;rw [if_pos hz] at hstep
      rw [hfin _ hstep];unfold zd;rw [if_pos hz]
     | some t0=>
      have hstep:=Vt (r:=(l.drop (k+1)).map xg) (t0:=t0) hP;rw [if_pos hz] at hstep
      rw [hfin _ hstep];unfold zd;rw [if_pos hz]
    rw [hR];have hfd:firD f=.nil\/∃ rows,firD f=.sl 3 rows:=by cases f with
     | none=>exact .inl rfl
     | some t0=>exact .inr ⟨_,rfl⟩
    rcases hfd with qf|⟨rows,qf⟩
    all_goals
     have ct:=c_toldF (T:=p.types.map MType.enc) (N:=p.nodes.map MNode.enc) s1 (firD f) (by cases f with
      | none=>exact .inl rfl
      | some t0=>exact .inr ⟨_,rfl⟩) hz
     rw [qf] at h9 ct
     simp only [xx] at cp ct
     rcases xT e1 with qe|⟨row,qe,-⟩
     all_goals
      rw [qe] at cp
      (have hWf:=w10 @h1 @h4 @b4 @h8 @b36 @b30 @h9 @h37 @h38 (ai @h39<|ai @hx<|ai @he<|@e0);repeat' (first|refine zS ?_|refine zI ?_ ?_|refine zK cg ?_|refine zH cp ?_|refine zH ct ?_|exact zF0|refine zD fun hb=>?_|exact zC|refine zT ?_|fail))
      all_goals trace_state
  ·obtain rfl:k=l.length:=by omega
   rw [List.drop_length,List.map_nil] at hfin
   cases f with
   | none=>have:=hfk.1 rfl;omega
   | some t0=>
    obtain ⟨t0G,t0l⟩:=hft t0 rfl;have hR:=hfin (t0,s) rfl;rw [hR];have ct:=c_told (T:=p.types.map MType.enc) (N:=p.nodes.map MNode.enc) s t0 hc0 hs0 t0G (by omega)
    simp only [xx] at ct
    (have hWf:=w10 @h1 @h4 @b4 @h8 @b36 @b30 @h9 @h37 @h38 (ai @h39<|@vT);repeat' (first|refine zS ?_|refine zI ?_ ?_|refine zH ct ?_|exact zF0|refine zD fun hb=>?_|exact zC|refine zT ?_|fail))
    all_goals trace_state
theorem xaT(p:MProgram)(ho:p.ok)(hs:p.sm)(hp:yq p=false):FT 43 [.ag p.enc] (fun r _=>r=.tup [.s (.int .i64 1),.s (.int .i64 0)]):=by
 have hc:=XV p ho hs;rw [hp,MProgram.enc_eq] at hc
 rw [MProgram.enc_eq];refine FI PM Tryz.func43 Tryz.ntmps43 [] rfl rfl ?_
 iterate 1 (refine xj ?_;simp only [go_sem,simprocAttr];(have hWf:=f0;repeat' (first|refine zY ?_|refine zI ?_ ?_|exact zF1|refine zD fun hb=>?_|exact zC|refine zT ?_|fail)))
 refine y8 1 (.box [.sl 3 (p.types.map MType.enc),.sl 6 (p.nodes.map MNode.enc)]) (by simp only [go_sem,simprocAttr]) rfl ?_
 (have hWf:=f0;repeat' (first|refine zS ?_|refine zI ?_ ?_|refine zK hc ?_|exact zF0|refine zD fun hb=>?_|exact zC|refine zT ?_|fail))
theorem ZB(p:MProgram)(ho:p.ok)(hs:p.sm):FT 43 [.ag p.enc] (fun r _=>∃ z i:Int,r=.tup [.s (.int .i64 z),.s (.int .i64 i)]/\(z=0 ↔ yq p=true/\AllI p.types)):=by
 cases hp:yq p with
 | true=>exact (xb0 p ho hs hp).mono fun r o ⟨z,i,h1,h2⟩=>⟨z,i,h1,by rw [h2];simp⟩
 | false=>exact (xaT p ho hs hp).mono fun r o h=>⟨1,0,h,by simp⟩
end
section
open Go.RowKit
def wK(name:ByteArray)(l:List MTy):List TyI:=⟨0,name,l.length⟩::l.flatMap MTy.items
def accA(name:ByteArray)(l:List MTy)(k:Nat):List TyI:=⟨0,name,l.length⟩::(l.take k).flatMap MTy.items
theorem accA_zero(name:ByteArray)(l:List MTy):accA name l 0=[⟨0,name,l.length⟩]:=rfl
theorem Qm(name:ByteArray)(l:List MTy){k:Nat}(h:k<l.length):accA name l (k+1)=accA name l k++l[k].items:=by
 unfold accA;rw [List.take_succ_eq_append_getElem h,List.flatMap_append];simp
theorem accA_le(name:ByteArray)(l:List MTy)(hi:∀ t∈l,t.items.length<=100000):∀ k,k<=l.length->(accA name l k).length<=1+100000*k
 | 0,_=>by simp [accA]
 | k+1,h=>by
  have:=accA_le name l hi k (by omega)
  have h2:=hi _ (List.getElem_mem (show k<l.length from h));rw [Qm name l h,List.length_append];omega
theorem YO(name:ByteArray)(l:List MTy)(hl:l.length<=2)(hi:∀ t∈l,t.items.length<=100000):FT 78 [.s (.string name),.sl 1 (l.map MTy.enc)] (fun r _=>r=.ag [.osl 143 3 ((wK name l).map TyI.own)]):=by
 have hall:accA name l l.length=wK name l:=by unfold accA wK;rw [List.take_length]
 refine FI PM Tryz.func78 Tryz.ntmps78 [(5,7,[],[],(lin [] [0,1,2,3,4,5,6]))] rfl rfl ?_
 (have hWf:=f0;repeat' (first|refine zS ?_|refine zI ?_ ?_|exact zF0|refine zD fun hb=>?_|exact zC|refine zT ?_|fail))
 refine xd (fun n σ=>∃ k na:Nat,na=(accA name l k).length/\k<=l.length/\n=l.length - k/\σ.t 1=.sl 1 (l.map MTy.enc)/\σ.t 4=.bx 4 0/\σ.b 4=some (.box [.nil])/\σ.t 5=.bx 5 0/\σ.b 5=some (.box [.bs 11 3 na])/\σ.b 11=some (.arr 143 3 ((accA name l k).map TyI.own))/\σ.t 14=.s (.int .i64 l.length)/\σ.t 15=.s (.int .i64 k)) l.length ⟨0,1,rfl,by omega,by omega,?_⟩ ?_
 ·simp only [go_sem,simprocAttr,Int.natCast_zero,accA_zero,TyI.own_eq]
 ·rintro n σ ⟨k,na,hna,hk,rfl,h1,h4,hb4,h5,hb5,hb11,h14,h15⟩ K' hK
  by_cases hlt:k<l.length
  ·have hx:=xb MTy.enc l k hlt
   have he:=MTy.enc_eq l[k];have e3:=Qm name l hlt;have hle:=accA_le name l hi (k+1) hlt;rw [e3,List.length_append,<- hna] at hle
   have hk3:1+100000*(k+1)<=1000000:=by omega
   have hle:=Nat.le_trans hle hk3;have hlen:((accA name l k).map TyI.own).length=na:=by rw [List.length_map,hna]
   obtain ⟨its,hits⟩:∃ its,l[k].items=its:=⟨_,rfl⟩;rw [hits] at he e3 hle
   clear hits;have hnew:na+its.length=(accA name l (k+1)).length:=by rw [e3,List.length_append,<- hna]
   have e3:=congrArg (List.map TyI.own) e3;rw [List.map_append] at e3
   obtain ⟨ak,hak⟩:∃ ak,(accA name l k).map TyI.own=ak:=⟨_,rfl⟩;rw [hak] at hlen e3 hb11
   have e3:=Lib.hid e3;have hnew:=Lib.hid hnew;clear hak hna hk3
   (have hWf:=w10 @h1 @h4 @hb4 @h5 @hb5 @hb11 @h14 @h15 @hx (ai @he<|@hlen);repeat' (first|refine zS ?_|refine zI ?_ ?_|exact zF0|refine zD fun hb=>?_|exact zC|refine zT ?_|fail))
   refine hK (l.length - (k+1)) _ (by omega) ⟨k+1,na+its.length,hnew.out,by omega,rfl,?_⟩
   simp only [go_sem,simprocAttr,h1,h4,hb4,h5,hb5,hb11,h14,h15,Int.natCast_succ,e3.out]
  ·obtain rfl:k=l.length:=by omega
   rw [hall] at hb11 hna
   (have hWf:=w9 @h1 @h4 @hb4 @h5 @hb5 @hb11 @h14 @h15 @hna;repeat' (first|refine zS ?_|refine zI ?_ ?_|exact zF0|refine zD fun hb=>?_|exact zC|refine zT ?_|fail))
theorem xb1(name:ByteArray):FT 78 [.s (.string name),.nil] (fun r _=>r=.ag [.osl 143 3 ([(⟨0,name,0⟩:TyI)].map TyI.own)]):=by
 refine FI PM Tryz.func78 Tryz.ntmps78 [(5,7,[],[],(lin [] [0,1,2,3,4,5,6]))] rfl rfl ?_
 (have hWf:=f0;repeat' (first|refine zS ?_|refine zI ?_ ?_|exact zF0|refine zD fun hb=>?_|exact zC|refine zT ?_|fail))
 refine xd (fun n σ=>n=0/\σ.t 4=.bx 4 0/\σ.b 4=some (.box [.nil])/\σ.t 5=.bx 5 0/\σ.b 5=some (.box [.bs 11 3 1])/\σ.b 11=some (.arr 143 3 ([(⟨0,name,0⟩:TyI)].map TyI.own))/\σ.t 14=.s (.int .i64 0)/\σ.t 15=.s (.int .i64 0)) 0 ⟨rfl,?_⟩ ?_
 ·simp only [go_sem,simprocAttr,TyI.own_eq]
 ·rintro n σ ⟨rfl,h4,hb4,h5,hb5,hb11,h14,h15⟩ K' hK
  (have hWf:=w7 @h4 @hb4 @h5 @hb5 @hb11 @h14 @h15;repeat' (first|refine zS ?_|refine zI ?_ ?_|exact zF0|refine zD fun hb=>?_|exact zC|refine zT ?_|fail))
end
section
open Go.RowKit Arb
def sR(T N:List (List D))(s:IS):List D:=[.sl 3 T,.sl 6 N,.sl 2 (s.l.map SubM.enc),.s (.int .i64 s.nx),.s (.int .i64 s.code),.s (.int .i64 s.at_)]
theorem xM(T N:List (List D))(s:IS):sR T N s=[.sl 3 T,.sl 6 N,.sl 2 (s.l.map SubM.enc),.s (.int .i64 s.nx),.s (.int .i64 s.code),.s (.int .i64 s.at_)]:=rfl
section
variable {T N:List (List D)}
theorem YP(s:IS)(h:s.nx<=4000000):FT 76 [.opt (sR T N s)] (fun r o=>r=.ag [.sl 3 [(fvI s.nx).enc]]/\o=[.opt (sR T N (incM s 1))]):=by
 refine FCon.iceO ?_;rw [xM,xM];refine FI PM Tryz.func76 Tryz.ntmps76 [] rfl rfl ?_
 (have hWf:=f0;repeat' (first|refine zS ?_|refine zI ?_ ?_|exact zF0|refine zD fun hb=>?_|exact zC|refine zT ?_|fail))
 ·rw [Int.add_sub_cancel];rfl
 ·rfl
theorem Xb(s:IS)(c a:Int):FT 82 [.opt (sR T N s),.s (.int .i64 c),.s (.int .i64 a)] (fun r o=>r=.tup []/\o=[.opt (sR T N (yP s c a)),.un,.un]):=by
 unfold yP
 by_cases h:s.code=0
 ·have e:(s.code==0)=true:=by simp [h]
  rw [if_pos h,xM,xM];refine FI PM Tryz.func82 Tryz.ntmps82 [] rfl rfl ?_
  (have hWf:=w1 @e;repeat' (first|refine zS ?_|refine zI ?_ ?_|exact zF0|refine zD fun hb=>?_|exact zC|refine zT ?_|fail))
 ·have e:(s.code==0)=false:=by simpa using h
  rw [if_neg h,xM];refine FI PM Tryz.func82 Tryz.ntmps82 [] rfl rfl ?_
  (have hWf:=w1 @e;repeat' (first|refine zS ?_|refine zI ?_ ?_|exact zF0|refine zD fun hb=>?_|exact zC|refine zT ?_|fail))
def bigM(s:IS)(t:List TyI)(a:Int):IS:=if s.code=0/\200<(putX s.l t).length then ⟨s.l,s.nx,26,a⟩ else s
theorem xaW(s:IS)(t:List TyI)(a:Int)(hs:OkS s)(hn:s.code=0->s.nx<=3000000)(lt:t.length<=10000000):FT 80 [.opt (sR T N s),.ag [.sl 3 (t.map TyI.enc)],.s (.int .i64 a)] (fun r o=>r=.tup []/\o=[.opt (sR T N (bigM s t a)),.un,.un]):=by
 unfold bigM
 by_cases q:s.code=0
 ·have e:(s.code==0)=true:=by simp [q]
  have G:=hs q;have hn:=hn q;have bx:=z9 (l:=s.l) (B:=200) (by omega) G.g.len t
  have px:=wn t s.l (by omega) (by have:=G.len;omega) G.g.dif (by omega)
  have gx:=uY (putX s.l t)
  by_cases h1:200<(putX s.l t).length
  ·have f1:decide (((putX s.l t).length:Int)>200)=true:=by rw [gx];exact decide_eq_true h1
   have cf:=Xb (T:=T) (N:=N) s 26 a;unfold yP at cf
   rw [if_pos q] at cf
   rw [if_pos ⟨q,h1⟩];rw [xM] at cf ⊢
   rw [xM] at cf ⊢
   refine FI PM Tryz.func80 Tryz.ntmps80 [(1,11,[],[],(lin [] [0,1,2,3,4,5,6,7,8,9,10]))] rfl rfl ?_
   (have hWf:=w2 @e @f1;repeat' (first|refine zS ?_|refine zI ?_ ?_|refine zK px ?_|refine zH cf ?_|exact zF0|refine zD fun hb=>?_|exact zC|refine zT ?_|fail))
  ·have f1:decide (((putX s.l t).length:Int)>200)=false:=by rw [gx];exact decide_eq_false h1
   rw [if_neg (fun h=>h1 h.2),xM]
   refine FI PM Tryz.func80 Tryz.ntmps80 [(1,11,[],[],(lin [] [0,1,2,3,4,5,6,7,8,9,10]))] rfl rfl ?_
   (have hWf:=w2 @e @f1;repeat' (first|refine zS ?_|refine zI ?_ ?_|refine zK px ?_|exact zF0|refine zD fun hb=>?_|exact zC|refine zT ?_|fail))
 ·have e:(s.code==0)=false:=by simpa using q
  rw [if_neg (fun h=>q h.1),xM]
  refine FI PM Tryz.func80 Tryz.ntmps80 [(1,11,[],[],(lin [] [0,1,2,3,4,5,6,7,8,9,10]))] rfl rfl ?_
  (have hWf:=w1 @e;repeat' (first|refine zS ?_|refine zI ?_ ?_|exact zF0|refine zD fun hb=>?_|exact zC|refine zT ?_|fail))
theorem bigM_ok{s:IS}{t:List TyI}{a:Int}(hs:OkS s):OkS (bigM s t a):=by
 unfold bigM;split
 ·exact fun h=>absurd h (show ¬ ((26:Int)=0) by decide)
 ·exact hs
theorem bigM_nx(s:IS)(t:List TyI)(a:Int):(bigM s t a).nx=s.nx:=by unfold bigM;split<;>rfl
theorem bigM_z{s:IS}{t:List TyI}{a:Int}(h:(bigM s t a).code=0):s.code=0:=by
 unfold bigM at h
 split at h
 ·exact absurd h (show ¬ ((26:Int)=0) by decide)
 ·exact h
theorem xcW(s:IS)(x y:List TyI)(a:Int)(h:(bigM (bigM s x a) y a).code≠0):bigM (bigM s x a) y a=yH s x y a:=by
 by_cases q:s.code=0
 ·by_cases h1:200<(putX s.l x).length
  ·rw [Z6 q a (.inl h1)]
   have e:bigM s x a=⟨s.l,s.nx,26,a⟩:=if_pos ⟨q,h1⟩;rw [e];unfold bigM;rw [if_neg (fun h=>absurd h.1 (show ¬ ((26:Int)=0) by decide))]
  ·have e:bigM s x a=s:=if_neg (fun h=>h1 h.2)
   rw [e] at h ⊢
   by_cases h2:200<(putX s.l y).length
   ·rw [Z6 q a (.inr h2)];exact if_pos ⟨q,h2⟩
   ·have e:bigM s y a=s:=if_neg (fun h=>h2 h.2)
    rw [e] at h;exact absurd q h
 ·have e:∀ t,bigM s t a=s:=fun t=>if_neg (fun h=>q h.1)
  rw [e,e,vj q]
theorem big2_zero{s:IS}{x y:List TyI}{a:Int}(h:(bigM (bigM s x a) y a).code=0):s.code=0/\bigM (bigM s x a) y a=s/\¬ (200<(putX s.l x).length\/200<(putX s.l y).length):=by
 by_cases q:s.code=0
 ·by_cases h1:200<(putX s.l x).length
  ·have e:bigM s x a=⟨s.l,s.nx,26,a⟩:=if_pos ⟨q,h1⟩
   rw [e] at h;unfold bigM at h;rw [if_neg (fun h=>absurd h.1 (show ¬ ((26:Int)=0) by decide))] at h;exact absurd h (show ¬ ((26:Int)=0) by decide)
  ·have e:bigM s x a=s:=if_neg (fun h=>h1 h.2)
   rw [e] at h ⊢
   by_cases h2:200<(putX s.l y).length
   ·have e:bigM s y a=⟨s.l,s.nx,26,a⟩:=if_pos ⟨q,h2⟩
    rw [e] at h;exact absurd h (show ¬ ((26:Int)=0) by decide)
   ·have e:bigM s y a=s:=if_neg (fun h=>h2 h.2)
    exact ⟨q,e,by omega⟩
 ·have e:∀ t,bigM s t a=s:=fun t=>if_neg (fun h=>q h.1)
  rw [e,e] at h;exact absurd h q
theorem WV(s:IS)(x y:List TyI)(a:Int)(hs:OkS s)(hn:s.code=0->s.nx<=3000000)(hx:s.code=0->TyG s.nx x)(hy:s.code=0->TyG s.nx y)(lx:x.length<=10000000)(ly:y.length<=10000000) :
  FT 37 [.opt (sR T N s),.ag [.sl 3 (x.map TyI.enc)],.ag [.sl 3 (y.map TyI.enc)],.s (.int .i64 a)] (fun r o=>r=.tup []/\o=[.opt (sR T N (yH s x y a)),.un,.un,.un]):=by
 have b1:=xaW (T:=T) (N:=N) s x a hs hn lx;have b2:=xaW (T:=T) (N:=N) (bigM s x a) y a (bigM_ok hs) (fun hc=>by rw [bigM_nx];exact hn (bigM_z hc)) ly
 by_cases hc:(bigM (bigM s x a) y a).code=0
 ·obtain ⟨q,e1,hb⟩:=big2_zero hc
  have eb:bigM s x a=s:=if_neg (fun h=>hb (.inl h.2))
  rw [e1] at b2
  rw [eb] at b1 b2
  obtain ⟨n,u1,u2,u3,u4⟩:=v4 (hs q) (hn q) (hx q) (hy q) (by omega) (by omega)
  have cu:=Vc n s.l x y _ u1 u2;have e0:(s.code != 0)=false:=by simp [q]
  by_cases hz:(uniR s.l x y).2=0
  ·rw [sameS_0 q a hb hz]
   rw [Zu hz] at cu
   rw [xM] at b1 b2
   rw [xM,xM];refine FI PM Tryz.func37 Tryz.ntmps37 [(4,11,[6],[],(lin [6] [0,1,2,3,4,5,6,7,8,9,10]))] rfl rfl ?_
   (have hWf:=w1 @e0;repeat' (first|refine zS ?_|refine zI ?_ ?_|refine zH b1 ?_|refine zH b2 ?_|refine zX (FCon.noout cu) ?_|((with_reducible apply xc);refine zG (cu) ?_)|exact zF0|refine zD fun hb=>?_|exact zC|refine zT ?_|fail))
  ·rw [sameS_n q a hb hz]
   rw [uT hz] at cu
   have f3:((uniR s.l x y).2 != 0)=true:=by simp [hz]
   have hi:=uniR_hi s.l x y;have cf:=Xb (T:=T) (N:=N) s (22+(uniR s.l x y).2) a;unfold yP at cf
   rw [if_pos q] at cf
   have ec:(uniR s.l x y).2+22=22+(uniR s.l x y).2:=Int.add_comm _ _;rw [ec];rw [xM] at b1 b2 cf
   rw [xM] at cf
   rw [xM,xM];refine FI PM Tryz.func37 Tryz.ntmps37 [(4,11,[6],[],(lin [6] [0,1,2,3,4,5,6,7,8,9,10]))] rfl rfl ?_
   (have hWf:=w2 @e0 @f3;repeat' (first|refine zS ?_|refine zI ?_ ?_|refine zH b1 ?_|refine zH b2 ?_|refine zX (FCon.noout cu) ?_|((with_reducible apply xc);refine zG (cu) ?_)|refine zH cf ?_|exact zF0|refine zD fun hb=>?_|exact zC|refine zT ?_|fail))
 ·have e:=xcW s x y a hc
  rw [<- e];have e0:((bigM (bigM s x a) y a).code != 0)=true:=by simpa using hc
  generalize bigM (bigM s x a) y a=s2 at *
  generalize bigM s x a=s1 at *
  rw [xM] at b1 b2
  rw [xM] at b1 b2
  rw [xM,xM];refine FI PM Tryz.func37 Tryz.ntmps37 [(4,11,[6],[],(lin [6] [0,1,2,3,4,5,6,7,8,9,10]))] rfl rfl ?_
  (have hWf:=w1 @e0;repeat' (first|refine zS ?_|refine zI ?_ ?_|refine zH b1 ?_|refine zH b2 ?_|exact zF0|refine zD fun hb=>?_|exact zC|refine zT ?_|fail))
end
def uU(k n:Nat):List MTy:=(List.range k).map fun v=>⟨[fvI (n+v)]⟩
theorem xcl(k n:Nat):uU (k+1) n=uU k n++[⟨[fvI (n+k)]⟩]:=by unfold uU;rw [List.range_succ,List.map_append];rfl
theorem argsF_len(k n:Nat):(uU k n).length=k:=by unfold uU;rw [List.length_map,List.length_range]
theorem Q5(nm:ByteArray)(k n:Nat)(hb:varB ⟨0,nm,(k:Nat)⟩=false):wK nm (uU k n)=putX (xm k n) (⟨0,nm,(k:Nat)⟩::parV k):=by
 rw [xG,x7,if_neg (by rw [hb];simp),vJ,XK _ _ _ (Nat.le_refl _)]
 unfold wK uU;rw [List.length_map,List.length_range,List.flatMap_map]
 rfl
theorem xbo(n:Nat):putX (xm 1 n) yw=⟨0,⟨#[108,105,115,116]⟩,1⟩::[fvI n]:=by
 have:=Q5 ⟨#[108,105,115,116]⟩ 1 n (by rw [zl];decide)
 exact this.symm
theorem pair_put(n:Nat):putX (xm 1 n) (uq++yw)=wK ⟨#[42]⟩ [⟨[fvI n]⟩,⟨putX (xm 1 n) yw⟩]:=by
 have h1:putX (xm 1 n) uq=[⟨0,⟨#[42]⟩,2⟩,fvI n]:=by
  show putX (xm 1 n) (⟨0,⟨#[42]⟩,2⟩::parV 1)=_;rw [xG,x7,if_neg (by rw [zl];decide),vJ,XK _ _ _ (Nat.le_refl _)];rfl
 rw [wQ,h1];simp [wK]
theorem ZC(name:ByteArray):FT 77 [.s (.string name)] (fun r _=>r=.ag [.sl 3 ((nmT name).map TyI.enc)]):=by
 have h:=xb1 name;refine FCon.ice ?_;refine FI PM Tryz.func77 Tryz.ntmps77 [] rfl rfl ?_
 (have hWf:=f0;repeat' (first|refine zS ?_|refine zI ?_ ?_|refine zK h ?_|exact zF0|refine zD fun hb=>?_|exact zC|refine zT ?_|fail))
 all_goals first|exact xP TyI.pure _ _ [(⟨0,name,0⟩:TyI)]|rfl
theorem xaY(name:ByteArray)(l:List MTy)(hl:l.length<=2)(hi:∀ t∈l,t.items.length<=100000):FT 78 [.s (.string name),.sl 1 (l.map MTy.enc)] (fun r _=>r=.ag [.sl 3 ((wK name l).map TyI.enc)]):=FCon.ice ((YO name l hl hi).mono fun r _ e=>by
 subst e;simp only [frA,frzL,frz,TyI.frzS])
theorem MTy_frz(xs:List MTy):xu (xs.map MTy.enc)=xs.map MTy.enc:=x9 (fun x=>by simp only [MTy.enc_eq,frzL,frz,x9 (fun y:TyI=>show frzL y.enc=y.enc by simp only [TyI.enc_eq,frzL,frz]) x.items]) xs
section
variable {ts:List MType} {N:List (List D)}
def Wj:(List TyI×List TyI×Bool)->D:=fun q=>.tup [.ag [.sl 3 (q.1.map TyI.enc)],.ag [.sl 3 (q.2.1.map TyI.enc)],.s (.bool q.2.2),.s (.bool true)]
theorem c_l06ConB(s:IS)(name:ByteArray)(hn:s.nx<=3000000)(h:name.toList=[116,114,117,101]\/name.toList=[102,97,108,115,101]) :
  FT 130 [.opt (sR (ts.map MType.enc) N s),.s (.string name)] (fun r o=>r=.tup [.ag [.sl 3 (vH.map TyI.enc)],.ag [.nil],.s (.bool false),.s (.bool true)]/\o=[.opt (sR (ts.map MType.enc) N s),.un]):=by
 have nb:=ZC ⟨#[98,111,111,108]⟩;have cs:∃ b1 b2:Bool,(name.toList==[116,114,117,101])=b1/\(name.toList==[102,97,108,115,101])=b2/\(b1=true\/(b1=false/\b2=true)):=by
  refine ⟨_,_,rfl,rfl,?_⟩;rcases h with h|h<;>rw [h]
  ·exact .inl (by decide)
  ·exact .inr ⟨by decide,by decide⟩
 obtain ⟨b1,b2,e1,e2,rfl|⟨rfl,rfl⟩⟩:=cs
 all_goals
  rw [xM];refine FI PM Tryz.func130 Tryz.ntmps130 [(6,9,[7,8],[(7,5),(7,6),(8,5),(8,6)],(lin [7,8] [0,1,2,3,4,5,6,7,8])),(22,12,[10,11],[(10,8),(10,9),(11,8),(11,9)],(lin [10,11] [0,1,2,3,4,5,6,7,8,9,10,11]))] rfl rfl ?_
  (have hWf:=w4 @e1 @e2 @lt_t @lf_t;repeat' (first|refine zS ?_|refine zI ?_ ?_|refine zK nb ?_|exact zF0|refine zD fun hb=>?_|exact zC|refine zT ?_|fail))
  all_goals rfl
theorem c_l06ConL(s:IS)(name:ByteArray)(hn:s.nx<=3000000)(b4:Bool)(h:name.toList=(if b4 then [58,58] else [91,93])) :
  FT 130 [.opt (sR (ts.map MType.enc) N s),.s (.string name)] (fun r o=>r=Wj (putX (xm 1 s.nx) yw,putX (xm 1 s.nx) (uq++yw),b4)/\o=[.opt (sR (ts.map MType.enc) N (incM s 1)),.un]):=by
 have nw:=YP (T:=ts.map MType.enc) (N:=N) s (by omega)
 have n1:=YO ⟨#[108,105,115,116]⟩ [⟨[fvI s.nx]⟩] (by simp) (by simp)
 have n2:=xaY ⟨#[42]⟩ [⟨[fvI s.nx]⟩,⟨putX (xm 1 s.nx) yw⟩] (by simp) (by rw [xbo];simp)
 have e1:(name.toList==[116,114,117,101])=false:=by cases b4<;>rw [h]<;>decide
 have e2:(name.toList==[102,97,108,115,101])=false:=by cases b4<;>rw [h]<;>decide
 have e4:(name.toList==[58,58])=b4:=by cases b4<;>rw [h]<;>decide
 have e3:(name.toList==[91,93])=!b4:=by cases b4<;>rw [h]<;>decide
 have hl:wK ⟨#[108,105,115,116]⟩ [⟨[fvI s.nx]⟩]=putX (xm 1 s.nx) yw:=by rw [xbo];rfl
 rw [hl] at n1
 rw [<- pair_put] at n2
 unfold Wj;dsimp only;clear h hl;generalize putX (xm 1 s.nx) (uq++yw)=X2 at *
 generalize putX (xm 1 s.nx) yw=X1 at *
 have n1:FT 78 [.s (.string ⟨#[108,105,115,116]⟩),.sl 1 [[.sl 3 [(fvI s.nx).enc]]]] (fun r _=>r=.ag [.osl 143 3 (X1.map TyI.own)]):=n1
 have n2:FT 78 [.s (.string ⟨#[42]⟩),.sl 1 [[.sl 3 [(fvI s.nx).enc]],[.sl 3 (X1.map TyI.enc)]]] (fun r _=>r=.ag [.sl 3 (X2.map TyI.enc)]):=n2
 rw [xM] at nw ⊢
 rw [xM] at nw ⊢
 cases b4
 all_goals
  refine FI PM Tryz.func130 Tryz.ntmps130 [(6,9,[7,8],[(7,5),(7,6),(8,5),(8,6)],(lin [7,8] [0,1,2,3,4,5,6,7,8])),(22,12,[10,11],[(10,8),(10,9),(11,8),(11,9)],(lin [10,11] [0,1,2,3,4,5,6,7,8,9,10,11]))] rfl rfl ?_
  iterate 8 (refine xj ?_;simp only [go_sem,simprocAttr,e1,e2,e3,e4,lt_t,lf_t,ua,uo];(have hWf:=w8 @e1 @e2 @e3 @e4 @lt_t @lf_t @ua @uo;repeat' (first|refine zY ?_|refine zI ?_ ?_|refine zH nw ?_|refine zK n1 ?_|exact zF1|refine zD fun hb=>?_|exact zC|refine zT ?_|fail)))
  all_goals first|exact xP TyI.pure _ _ X1|skip
  refine y8 1036 (.arr 143 3 (X1.map TyI.own)) (by simp only [go_sem,simprocAttr]) rfl ?_
  (have hWf:=w9 @e1 @e2 @e3 @e4 @lt_t @lf_t @ua @uo @TyI.frzS;repeat' (first|refine zS ?_|refine zI ?_ ?_|refine zK n2 ?_|exact zF0|refine zD fun hb=>?_|exact zC|refine zT ?_|fail))
theorem c_l06ConT(s:IS)(name:ByteArray)(hn:s.nx<=3000000)(h:¬ (name.toList=[116,114,117,101]\/name.toList=[102,97,108,115,101]))(h2:¬ (name.toList=[91,93]\/name.toList=[58,58]))(T:yv ts) :
  FT 130 [.opt (sR (ts.map MType.enc) N s),.s (.string name)] (fun r o=>match xW ts name with
   | none=>r=.tup [.ag [.nil],.ag [.nil],.s (.bool false),.s (.bool false)]/\o=[.opt (sR (ts.map MType.enc) N s),.un]
   | some q=>r=Wj (putX (xm q.1.params.toNat s.nx) (ownT q.1),putX (xm q.1.params.toNat s.nx) q.2.arg,q.2.has)/\o=[.opt (sR (ts.map MType.enc) N (incM s q.1.params.toNat)),.un]):=by
 simp only [not_or] at h h2
 have e1:(name.toList==[116,114,117,101])=false:=by simpa using h.1
 have e2:(name.toList==[102,97,108,115,101])=false:=by simpa using h.2
 have e3:(name.toList==[91,93])=false:=by simpa using h2.1
 have e4:(name.toList==[58,58])=false:=by simpa using h2.2
 have hl:=T.len;have hcl:=T.cl;have hpar:=T.par;have harg:=T.arg;have hno':=T.no;have hnm:=T.nm;clear h h2 T;unfold Wj;rw [xM];refine FI PM Tryz.func130 Tryz.ntmps130 [(6,9,[7,8],[(7,5),(7,6),(8,5),(8,6)],(lin [7,8] [0,1,2,3,4,5,6,7,8])),(22,12,[10,11],[(10,8),(10,9),(11,8),(11,9)],(lin [10,11] [0,1,2,3,4,5,6,7,8,9,10,11]))] rfl rfl ?_
 (have hWf:=w8 @e1 @e2 @e3 @e4 @lt_t @lf_t @ua @uo;repeat' (first|refine zS ?_|refine zI ?_ ?_|exact zF0|refine zD fun hb=>?_|exact zC|refine zT ?_|fail))
 refine xd (fun n σ=>∃ k:Nat,k<=ts.length/\n=ts.length - k/\xW (ts.take k) name=none/\σ.t 0=.bx 900000 0/\σ.t 1=.s (.string name)/\σ.t 4=.bx 4 0/\σ.b 4=some (.box [.nil])/\σ.t 5=.bx 5 0/\σ.b 5=some (.box [.nil])/\σ.t 48=.sl 3 (ts.map MType.enc)/\σ.t 49=.s (.int .i64 ts.length)/\σ.t 50=.s (.int .i64 k)/\σ.b 900000=some (.box [.sl 3 (ts.map MType.enc),.sl 6 N,.sl 2 (s.l.map SubM.enc),.s (.int .i64 s.nx),.s (.int .i64 s.code),.s (.int .i64 s.at_)])) ts.length ⟨0,by omega,by omega,rfl,?_⟩ ?_
 ·simp only [go_sem,simprocAttr,Int.natCast_zero]
  done
 ·rintro n σ ⟨k,hk,rfl,hno,h0,h1,h4,b4,h5,b5,h48,h49,h50,b9⟩ K' hK
  by_cases hlt:k<ts.length
  ·have htm:=List.getElem_mem hlt
   have hx:=xb MType.enc ts k hlt;have hcl':=hcl _ htm;have hp':=hpar _ htm;have harg':=harg _ htm;have hno2:=hno' _ htm;have hnm':=hnm _ htm;have hstep:=ZG ts name k hlt hno;have hhit:=W3 ts name k hlt hno;clear hno hcl hpar harg hno' hnm;generalize ht:ts[k]=t at hx hcl' hp' harg' hno2 hnm' hstep hhit
   have hte:=MType.enc_eq t
   (have hWf:=w10 @h0 @h1 @h4 @b4 @h5 @b5 @h48 @h49 @h50 (ai @b9<|ai @hx<|@hte);repeat' (first|refine zS ?_|refine zI ?_ ?_|exact zF0|refine zD fun hb=>?_|exact zC|refine zT ?_|fail))
   refine xd (fun n σ=>∃ j:Nat,j<=t.cons.length/\n=t.cons.length - j/\(∀ c∈t.cons.take j,(c.name.toList==name.toList)=false)/\σ.t 0=.bx 900000 0/\σ.t 1=.s (.string name)/\σ.t 4=.bx 4 0/\σ.b 4=some (.box [.nil])/\σ.t 5=.bx 5 0/\σ.b 5=some (.box [.nil])/\σ.t 48=.sl 3 (ts.map MType.enc)/\σ.t 49=.s (.int .i64 ts.length)/\σ.t 50=.s (.int .i64 k)/\σ.b 900000=some (.box [.sl 3 (ts.map MType.enc),.sl 6 N,.sl 2 (s.l.map SubM.enc),.s (.int .i64 s.nx),.s (.int .i64 s.code),.s (.int .i64 s.at_)])/\σ.t 11=.bx 11 0/\σ.b 11=some (.box [.s (.string t.name),.s (.int .i64 t.params),.sl 3 (t.cons.map MCon.enc)])/\σ.t 55=.sl 3 (t.cons.map MCon.enc)/\σ.t 56=.s (.int .i64 t.cons.length)/\σ.t 57=.s (.int .i64 j)) t.cons.length ⟨0,by omega,by omega,by simp,?_⟩ ?_
   ·simp only [go_sem,simprocAttr,h0,h1,h4,b4,h5,b5,h48,h49,h50,b9,Int.natCast_zero]
    done
   ·rintro n σ ⟨j,hj,rfl,hnj,g0,g1,g4,c4,g5,c5,g48,g49,g50,c9,g11,c11,g55,g56,g57⟩ K'' hK''
    by_cases hlj:j<t.cons.length
    ·have hy:=xb MCon.enc t.cons j hlj
     have hhit':=hhit j hlj hnj;have hargc:=harg' _ (List.getElem_mem hlj);have hnoc:=hno2 _ (List.getElem_mem hlj);have htk:=List.take_succ_eq_append_getElem hlj;generalize hc:t.cons[j]=c at hy hhit' hargc hnoc htk
     have hce:=MCon.enc_eq c;cases e5:(c.name.toList==name.toList) with
     | false=>
      (have hWf:=w10 @g0 @g1 @g4 @c4 @g5 @c5 @g48 @g49 @g50 (ai @c9<|ai @g11<|ai @c11<|ai @g55<|ai @g56<|ai @g57<|ai @hy<|ai @hce<|@e5);repeat' (first|refine zS ?_|refine zI ?_ ?_|exact zF0|refine zD fun hb=>?_|exact zC|refine zT ?_|fail))
      refine hK'' (t.cons.length - (j+1)) _ (by omega) ⟨j+1,by omega,rfl,(by
       rw [htk];intro x hx2;rcases List.mem_append.1 hx2 with q|q
       ·exact hnj x q
       ·rw [List.mem_singleton.1 q];exact e5),?_⟩
      simp only [go_sem,simprocAttr,g0,g1,g4,c4,g5,c5,g48,g49,g50,c9,g11,c11,g55,g56,g57,Int.natCast_succ]
      done
     | true=>
      have hf:=hhit' e5;rw [hf];clear hf hhit hhit' hstep hK hK'';obtain ⟨pn,hpn⟩:∃ pn:Nat,t.params=pn:=⟨t.params.toNat,by omega⟩
      have hpt:t.params.toNat=pn:=by omega
      dsimp only;rw [hpt]
      (have hWf:=w10 @g0 @g1 @g4 @c4 @g5 @c5 @g48 @g49 @g50 (ai @c9<|ai @g11<|ai @c11<|ai @g55<|ai @g56<|ai @g57<|ai @hy<|ai @hce<|@e5);repeat' (first|refine zS ?_|refine zI ?_ ?_|exact zF0|refine zD fun hb=>?_|exact zC|refine zT ?_|fail))
      refine xd (fun n σ=>∃ v:Nat,v<=pn/\n=pn - v/\σ.t 0=.bx 900000 0/\σ.t 4=.bx 4 0/\σ.b 4=some (.box [.nil])/\σ.t 5=.bx 5 0/\σ.b 5=some (.box [.nil])/\σ.t 11=.bx 11 0/\σ.b 11=some (.box [.s (.string t.name),.s (.int .i64 t.params),.sl 3 (t.cons.map MCon.enc)])/\σ.t 13=.bx 13 0/\σ.b 13=some (.box [.s (.string c.name),.s (.bool c.has),.sl 3 (c.arg.map TyI.enc)])/\σ.t 14=.bs 65 1 v/\σ.b 65=some (.arr 31 1 ((uU v s.nx).map MTy.enc))/\σ.t 15=.bs 66 2 v/\σ.b 66=some (.arr 160 2 ((xm v s.nx).map SubM.enc))/\σ.t 16=.s (.int .i64 v)/\σ.b 900000=some (.box [.sl 3 (ts.map MType.enc),.sl 6 N,.sl 2 (s.l.map SubM.enc),.s (.int .i64 ((s.nx+v:Nat):Int)),.s (.int .i64 s.code),.s (.int .i64 s.at_)])) pn ⟨0,by omega,by omega,?_⟩ ?_
      ·simp only [go_sem,simprocAttr,g0,g4,c4,g5,c5,c9,g11,c11,Int.natCast_zero]
       exact ⟨rfl,rfl⟩
      ·rintro n σ ⟨v,hv,rfl,i0,i4,d4,i5,d5,i11,d11,i13,d13,i14,d65,i15,d66,i16,d9⟩ K3 hK3
       have hfl:=YX v s.nx;have hal:=argsF_len v s.nx
       by_cases hlv:v<pn
       ·have nw:=YP (T:=ts.map MType.enc) (N:=N) ⟨s.l,s.nx+v,s.code,s.at_⟩ (show s.nx+v<=4000000 by omega)
        rw [xM,xM] at nw
        (have hWf:=w10 @i0 @i4 @d4 @i5 @d5 @i11 @d11 @i13 @d13 (ai @i14<|ai @d65<|ai @i15<|ai @d66<|ai @i16<|ai @d9<|ai @hfl<|ai @hal<|@hpn);repeat' (first|refine zS ?_|refine zI ?_ ?_|refine zH nw ?_|exact zF0|refine zD fun hb=>?_|exact zC|refine zT ?_|fail))
        refine hK3 (pn - (v+1)) _ (by omega) ⟨v+1,by omega,rfl,?_⟩
        simp only [go_sem,simprocAttr,i0,i4,d4,i5,d5,i11,d11,i13,d13,i14,d65,i15,d66,i16,d9,Int.natCast_succ,xcl,Yp,List.map_append];exact ⟨by rw [MTy.enc_eq];rfl,by rw [SubM.enc_eq];rfl,rfl⟩
       ·obtain rfl:v=pn:=by omega
        refine y8 65 (.arr 31 1 ((uU v s.nx).map MTy.enc)) (by simp only [go_sem,simprocAttr,d65]) rfl ?_
        refine y8 66 (.arr 160 2 ((xm v s.nx).map SubM.enc)) (by simp only [go_sem,simprocAttr,d66]) rfl ?_
        have hcl2:c.arg.length<=200:=by
         cases hh:c.has with
         | true=>exact (hargc hh).2
         | false=>rw [hnoc hh];exact Nat.zero_le _
        have hfa:=zu v s.nx c.arg;have nm:=xaY t.name (uU v s.nx) (by omega) (fun q hq=>by
         unfold uU at hq
         obtain ⟨_,_,rfl⟩:=List.mem_map.1 hq;show [_].length<=_;simp)
        have ap:=wn c.arg (xm v s.nx) (by omega) (by omega) (vJ v s.nx ▸ xbR _ _) (by omega)
        have hb1:=(ZY hnm' t.params hp'.1 hp'.2).1;have ho:ownT t=⟨0,t.name,(v:Nat)⟩::parV v:=by unfold ownT;rw [hpt,hpn]
        rw [hpn] at hb1
        rw [Q5 t.name v s.nx hb1,<- ho] at nm
        (have hWf:=w10 @i0 @i4 @d4 @i5 @d5 @i11 @d11 @i13 @d13 (ai @i14<|ai @d65<|ai @i15<|ai @d66<|ai @i16<|ai @d9<|ai @hfl<|ai @hal<|ai @hpn<|ai @SubM.frzE<|@MTy_frz);repeat' (first|refine zS ?_|refine zI ?_ ?_|refine zK nm ?_|refine zK ap ?_|exact zF0|refine zD fun hb=>?_|exact zC|refine zT ?_|fail))
        all_goals rfl
    ·obtain rfl:j=t.cons.length:=by omega
     rw [List.take_length] at hnj
     (have hWf:=w10 @g0 @g1 @g4 @c4 @g5 @c5 @g48 @g49 @g50 (ai @c9<|ai @g11<|ai @c11<|ai @g55<|ai @g56<|@g57);repeat' (first|refine zS ?_|refine zI ?_ ?_|exact zF0|refine zD fun hb=>?_|exact zC|refine zT ?_|fail))
     refine hK (ts.length - (k+1)) _ (by omega) ⟨k+1,by omega,rfl,hstep hnj,?_⟩
     simp only [go_sem,simprocAttr,g0,g1,g4,c4,g5,c5,g48,g49,g50,c9,Int.natCast_succ]
     done
  ·obtain rfl:k=ts.length:=by omega
   rw [List.take_length] at hno
   rw [hno]
   (have hWf:=w10 @h0 @h1 @h4 @b4 @h5 @b5 @h48 @h49 @h50 @b9;repeat' (first|refine zS ?_|refine zI ?_ ?_|exact zF0|refine zD fun hb=>?_|exact zC|refine zT ?_|fail))
def conSRD:Option ((List TyI×List TyI×Bool)×IS)->D
 | none=>.tup [.ag [.sl 3 []],.ag [.sl 3 []],.s (.bool false),.s (.bool false)]
 | some q=>Wj q.1
def conSt(s:IS):Option ((List TyI×List TyI×Bool)×IS)->IS
 | none=>s
 | some q=>q.2
theorem FCon.tup4{P:Program}{f:FuncId}{args o:List D}{x1 x2 y1 y2 c d:D}(h:FCon P f args (fun r o'=>r=.tup [x1,x2,c,d]/\o'=o))(h1:nwT x1 y1)(h2:nwT x2 y2):FCon P f args (fun r o'=>r=.tup [y1,y2,c,d]/\o'=o):=h.tupN rfl fun m x x' hx hx'=>by
 match m,hx,hx' with
 | 0,hx,hx'=>rw [<- Option.some.inj hx,<- Option.some.inj hx'];exact h1
 | 1,hx,hx'=>rw [<- Option.some.inj hx,<- Option.some.inj hx'];exact h2
 | 2,hx,hx'=>exact .inl (by rw [<- Option.some.inj hx,<- Option.some.inj hx'])
 | 3,hx,hx'=>exact .inl (by rw [<- Option.some.inj hx,<- Option.some.inj hx'])
 | m+4,hx,hx'=>simp at hx
theorem c_l06Con(T:yv ts)(s:IS)(name:ByteArray)(hn:s.nx<=3000000) :
  FT 130 [.opt (sR (ts.map MType.enc) N s),.s (.string name)] (fun r o=>r=conSRD (wo ts s name)/\o=[.opt (sR (ts.map MType.enc) N (conSt s (wo ts s name))),.un]):=by
 by_cases h1:name.toList=[116,114,117,101]\/name.toList=[102,97,108,115,101]
 ·have e:wo ts s name=some ((vH,[],false),s):=if_pos h1
  rw [e];exact (c_l06ConB s name hn h1).tup4 (.inl rfl) (.inr (.inr ⟨rfl,3,rfl⟩))
 by_cases h2:name.toList=[91,93]\/name.toList=[58,58]
 ·have e:wo ts s name=some ((putX (xm 1 s.nx) yw,putX (xm 1 s.nx) (uq++yw),name.toList==[58,58]),incM s 1):=by unfold wo;rw [if_neg h1,if_pos h2]
  rw [e];refine c_l06ConL s name hn (name.toList==[58,58]) ?_;rcases h2 with h|h<;>rw [h]<;>rfl
 ·have e:wo ts s name=(xW ts name).map fun q=>((putX (xm q.1.params.toNat s.nx) (ownT q.1),putX (xm q.1.params.toNat s.nx) q.2.arg,q.2.has),incM s q.1.params.toNat):=by unfold wo;rw [if_neg h1,if_neg h2]
  rw [e];have:=c_l06ConT (N:=N) s name hn h1 h2 T;cases hf:xW ts name with
  | none=>
   rw [hf] at this
   exact this.tup4 (.inr (.inr ⟨rfl,3,rfl⟩)) (.inr (.inr ⟨rfl,3,rfl⟩))
  | some q=>rw [hf] at this;exact this
theorem Qz(T:yv ts)(s:IS)(name:ByteArray)(k a:Int)(hn:s.nx<=3000000) :
  FT 79 [.opt (sR (ts.map MType.enc) N s),.s (.string name),.s (.int .i64 k),.s (.int .i64 a)] (fun r o=>r=.tup [.ag [.sl 3 ((xn ts s name (k==1) a).1.1.map TyI.enc)],.ag [.sl 3 ((xn ts s name (k==1) a).1.2.map TyI.enc)]]/\o=[.opt (sR (ts.map MType.enc) N (xn ts s name (k==1) a).2),.un,.un,.un]):=by
 have cc:=c_l06Con (N:=N) T s name hn;unfold xn;cases hc:wo ts s name with
 | none=>
  rw [hc] at cc
  have cf:=Xb (T:=ts.map MType.enc) (N:=N) s 22 a;unfold conSRD conSt at cc
  simp only [xM] at cc cf ⊢
  refine FI PM Tryz.func79 Tryz.ntmps79 [(6,3,[2],[(2,1)],(lin [2] [0,1,2]))] rfl rfl ?_
  (have hWf:=f0;repeat' (first|refine zS ?_|refine zI ?_ ?_|refine zH cc ?_|refine zH cf ?_|exact zF0|refine zD fun hb=>?_|exact zC|refine zT ?_|fail))
 | some q=>
  obtain ⟨⟨t,arg,has⟩,s1⟩:=q;rw [hc] at cc
  have cf:=Xb (T:=ts.map MType.enc) (N:=N) s1 23 a;unfold conSRD conSt Wj at cc
  obtain ⟨kb,hkb⟩:∃ kb,(k==1)=kb:=⟨_,rfl⟩;rw [hkb];dsimp only at cc ⊢
  simp only [xM] at cc cf ⊢
  cases kb<;>cases has
  all_goals first|rw [if_pos (by decide)]|rw [if_neg (by decide)]
  all_goals
   refine FI PM Tryz.func79 Tryz.ntmps79 [(6,3,[2],[(2,1)],(lin [2] [0,1,2]))] rfl rfl ?_
   (have hWf:=w1 @hkb;repeat' (first|refine zS ?_|refine zI ?_ ?_|refine zH cc ?_|refine zH cf ?_|exact zF0|refine zD fun hb=>?_|exact zC|refine zT ?_|fail))
   all_goals trace_state
end
def bndE(b:Bnd):List D:=[.s (.string b.name),.sl 3 (b.ty.map TyI.enc),.sl 1 (b.gen.map iE)]
def envE(g e:List Bnd):List (List D):=(g++e.reverse).map bndE
theorem iE_e(z:Int):iE z=[.s (.int .i64 z)]:=rfl
theorem envE_cons(g e:List Bnd)(b:Bnd):envE g (b::e)=envE g e++[bndE b]:=by unfold envE;rw [List.reverse_cons,<- List.append_assoc,List.map_append];rfl
theorem iEs_frz(l:List Int):xu (l.map iE)=l.map iE:=x9 (fun _=>rfl) l
theorem tyEs_frz(xs:List TyI):xu (xs.map TyI.enc)=xs.map TyI.enc:=x9 (fun x=>by simp only [TyI.enc_eq,frzL,frz]) xs
theorem envE_frz(g e:List Bnd):xu (envE g e)=envE g e:=x9 (fun b=>by simp only [bndE,frzL,frz,iEs_frz,tyEs_frz]) _
theorem FCon.tupR{P:Program}{f:FuncId}{args o:List D}{x:D}{k:Nat}{a b:List (List D)}(h:FCon P f args (fun r o'=>r=.tup [x,.sl k a]/\o'=o))(hw:RW (.sl k a) (.sl k b)):FCon P f args (fun r o'=>r=.tup [x,.sl k b]/\o'=o):=h.wk fun r o' e=>by
 obtain ⟨rfl,rfl⟩:=e;refine ⟨_,⟨rfl,rfl⟩,fun g w v hv=>YH (xs:=[x,.sl k a]) (xs':=[x,.sl k b]) rfl (fun m x x' hx hx' u hu=>?_) hv⟩
 match m,hx,hx' with
 | 0,hx,hx'=>rw [<- Option.some.inj hx'] ;rw [<- Option.some.inj hx] at hu;exact hu
 | 1,hx,hx'=>
  rw [<- Option.some.inj hx'];rw [<- Option.some.inj hx] at hu
  exact hw _ _ _ _ _ hu
 | m+2,hx,hx'=>simp at hx
theorem UC{ts:List MType}(T:yv ts)(s:IS)(name:ByteArray)(one:Bool)(a:Int):(xn ts s name one a).1.1.length<=3/\(xn ts s name one a).1.2.length<=200:=by
 unfold xn;cases hc:wo ts s name with
 | none=>exact ⟨Nat.zero_le _,Nat.zero_le _⟩
 | some q=>
  obtain ⟨⟨t,arg,has⟩,s1⟩:=q;dsimp only;unfold wo at hc
  split at hc
  ·injection hc with hc;injection hc with hc _;injection hc with e1 hc;injection hc with e2 _;subst e1 e2
   exact ⟨by decide,by decide⟩
  ·split at hc
   ·injection hc with hc;injection hc with hc _;injection hc with e1 hc;injection hc with e2 _;subst e1 e2
    exact ⟨Nat.le_trans (zu _ _ _) (by decide),Nat.le_trans (zu _ _ _) (by decide)⟩
   ·obtain ⟨q,hf,e⟩:=Option.map_eq_some_iff.1 hc
    injection e with e _;injection e with e1 e;injection e with e2 _;subst e1 e2
    obtain ⟨ht,hcn⟩:=ze hf;refine ⟨Nat.le_trans (zu _ _ _) (own_G (T.nm _ ht) (T.par _ ht)).2,Nat.le_trans (zu _ _ _) ?_⟩;cases hh:q.2.has with
    | true=>exact (T.arg _ ht _ hcn hh).2
    | false=>rw [T.no _ ht _ hcn hh];exact Nat.zero_le _
theorem Za{ts:List MType}(T:yv ts)(a:Int):∀ t:PT,okP t->∀ (e:List Bnd) (s:IS),(patS ts a t e s).1.length<=3*t.size:=fun t=>by
 induction t using Arb.ind with
 | h b l ih=>
  intro ho e s;have hsz:=Arb.size_pos (Arb.mk b l)
  by_cases q:s.code=0
  ·have one:∀ x,l=[x]->b.kind=4->(patS ts a (.mk b l) e s).1.length<=3*(Arb.mk b l).size:=by
    intro x hl k;subst hl;have L:=(UC T s b.s true a).1
    by_cases z:(xn ts s b.s true a).2.code=0
    ·rw [X8 (x:=x) q k (c:=(xn ts s b.s true a).1) (s1:=(xn ts s b.s true a).2) rfl z rfl]
     show (xn ts s b.s true a).1.1.length<=_;omega
    ·rw [XH (l:=[x]) q k (c:=(xn ts s b.s true a).1) (s1:=(xn ts s b.s true a).2) rfl z]
     show (xn ts s b.s true a).1.1.length<=_;omega
   rcases ho.root with ⟨k,hl,-,-⟩|⟨k,hl,-,-⟩|⟨k,hl,-,-,-⟩|⟨k,hl,-,-⟩|⟨c,x,y,k,hl,-,-,-⟩|⟨x,k,hl,-,-⟩|⟨x,y,k,hl,-,-⟩|⟨k,hl,-,-⟩
   ·rw [Ya q k];show 1<=_;omega
   ·rw [Zb q k];show 1<=_;omega
   ·rw [Y9 q k];show 1<=_;omega
   ·subst hl
    have L:=(UC T s b.s false a).1;rw [X7 q k (c:=(xn ts s b.s false a).1) (s1:=(xn ts s b.s false a).2) rfl];show (xn ts s b.s false a).1.1.length<=_;omega
   ·exact one _ hl k
   ·exact one _ hl k
   ·subst hl
    have h1:=ih x (by simp) (ho.kid x (by simp)) e s
    have h2:=ih y (by simp) (ho.kid y (by simp)) (patS ts a x e s).2.1 (patS ts a x e s).2.2
    have h3:(Arb.mk b [x,y]).size=1+(x.size+y.size):=by rw [size_mk,sizeL_cons,sizeL_cons,sizeL_nil];omega
    rw [vW (x:=x) (y:=y) q k (t1:=(patS ts a x e s).1) (e1:=(patS ts a x e s).2.1) (s1:=(patS ts a x e s).2.2) rfl rfl];show (zA::(_++_)).length<=_;rw [List.length_cons,List.length_append];omega
   ·rw [X9 q k];show 1<=_;omega
  ·rw [yF q];exact Nat.zero_le _
theorem patS_env{ts:List MType}(a:Int):∀ t:PT,okP t->∀ (e:List Bnd) (s:IS),(patS ts a t e s).2.1.length<=e.length+t.size:=fun t=>by
 induction t using Arb.ind with
 | h b l ih=>
  intro ho e s;have hsz:=Arb.size_pos (Arb.mk b l)
  by_cases q:s.code=0
  ·have one:∀ x,l=[x]->b.kind=4->(patS ts a (.mk b l) e s).2.1.length<=e.length+(Arb.mk b l).size:=by
    intro x hl k;subst hl
    by_cases z:(xn ts s b.s true a).2.code=0
    ·rw [X8 (x:=x) q k (c:=(xn ts s b.s true a).1) (s1:=(xn ts s b.s true a).2) rfl z rfl]
     have h1:=ih x (by simp) (ho.kid x (by simp)) e (xn ts s b.s true a).2
     have h3:(Arb.mk b [x]).size=1+x.size:=by rw [size_mk,sizeL_cons,sizeL_nil];omega
     show (patS ts a x e (xn ts s b.s true a).2).2.1.length<=_;omega
    ·rw [XH (l:=[x]) q k (c:=(xn ts s b.s true a).1) (s1:=(xn ts s b.s true a).2) rfl z]
     exact Nat.le_add_right _ _
   rcases ho.root with ⟨k,hl,-,-⟩|⟨k,hl,-,-⟩|⟨k,hl,-,-,-⟩|⟨k,hl,-,-⟩|⟨c,x,y,k,hl,-,-,-⟩|⟨x,k,hl,-,-⟩|⟨x,y,k,hl,-,-⟩|⟨k,hl,-,-⟩
   ·rw [Ya q k];exact Nat.le_add_right _ _
   ·rw [Zb q k];show e.length+1<=_;omega
   ·rw [Y9 q k];exact Nat.le_add_right _ _
   ·subst hl
    rw [X7 q k (c:=(xn ts s b.s false a).1) (s1:=(xn ts s b.s false a).2) rfl];exact Nat.le_add_right _ _
   ·exact one _ hl k
   ·exact one _ hl k
   ·subst hl
    have h1:=ih x (by simp) (ho.kid x (by simp)) e s
    have h2:=ih y (by simp) (ho.kid y (by simp)) (patS ts a x e s).2.1 (patS ts a x e s).2.2
    have h3:(Arb.mk b [x,y]).size=1+(x.size+y.size):=by rw [size_mk,sizeL_cons,sizeL_cons,sizeL_nil];omega
    rw [vW (x:=x) (y:=y) q k (t1:=(patS ts a x e s).1) (e1:=(patS ts a x e s).2.1) (s1:=(patS ts a x e s).2.2) rfl rfl];show (patS ts a y (patS ts a x e s).2.1 (patS ts a x e s).2.2).2.1.length<=_;omega
   ·rw [X9 q k];exact Nat.le_add_right _ _
  ·rw [yF q];exact Nat.le_add_right _ _
theorem envE_len(g e:List Bnd):(envE g e).length=g.length+e.length:=by unfold envE;rw [List.length_map,List.length_append,List.length_reverse]
theorem V7{ts:List MType}(T:yv ts)(a:Int){t:PT}(ho:okP t)(e:List Bnd){s:IS}(hs:OkS s)(hn:s.code=0->s.nx+2*t.size<=3000000):OkS (patS ts a t e s).2.2/\((patS ts a t e s).2.2.code=0->s.code=0/\s.nx<=(patS ts a t e s).2.2.nx/\(patS ts a t e s).2.2.nx<=s.nx+2*t.size/\TyG (patS ts a t e s).2.2.nx (patS ts a t e s).1):=by
 by_cases q:s.code=0
 ·have hn:=hn q
  have G:=patG T a t ho e s;have up:=G.up;have R:=G.rl s (Rl.refl s) hs (by omega)
  have key:(patS ts a t e s).2.2.code=0->(patI ts a t e s).2.2.code=0/\(patI ts a t e s).2.2=(patS ts a t e s).2.2:=fun hz=>by
   have h1:(patI ts a t e s).2.2.code=0:=by rw [R.1.c];exact hz
   exact ⟨h1,R.1.e h1⟩
  refine ⟨fun hz=>?_,fun hz=>?_⟩
  ·obtain ⟨h1,h2⟩:=key hz
   rw [<- h2];exact G.st hs (by omega) h1
  ·obtain ⟨h1,h2⟩:=key hz
   refine ⟨q,by rw [<- h2];exact G.le,by rw [<- h2];exact up,?_⟩
   rw [<- h2,<- (R.2 h1).1];exact G.ty hs (by omega) h1
 ·rw [yF q]
  exact ⟨hs,fun hz=>absurd hz q⟩
section
variable {ts:List MType} {N:List (List D)}
abbrev um(ts:List MType)(N:List (List D))(nodes:List DPNode)(g:List Bnd)(a:Int)(t:PT)(m:Nat)(e:List Bnd)(s:IS):Prop:=FT 36 [.opt (sR (ts.map MType.enc) N s),.ag [.sl 4 (nodes.map DPNode.enc)],.s (.int .i64 m),.sl 3 (envE g e),.s (.int .i64 a)] (fun r o=>r=.tup [.ag [.sl 3 ((patS ts a t e s).1.map TyI.enc)],.sl 3 (envE g (patS ts a t e s).2.1)]/\o=[.opt (sR (ts.map MType.enc) N (patS ts a t e s).2.2),.un,.un,.un,.un])
theorem c_patS1(T:yv ts)(nodes:List DPNode)(hl:nodes.length<=30000)(g:List Bnd)(a:Int)(b:PI)(l:List PT)(x:PT)(k:b.kind=4)(hl':l=[x])(ih:∀ (m:Nat),At PI.node nodes m x->∀ (e:List Bnd) (s:IS),OkS s->(s.code=0->s.nx+2*x.size<=3000000)->g.length+e.length+x.size<=1000000->um ts N nodes g a x m e s)(m:Nat)(hA:At PI.node nodes m (.mk b l))(hox:okP x)(ho:okP (.mk b l))(e:List Bnd)(s:IS)(hs:OkS s)(q:s.code=0)(hn:s.nx+2*(Arb.mk b l).size<=3000000)(hE:g.length+e.length+(Arb.mk b l).size<=1000000):um ts N nodes g a (.mk b l) m e s:=by
 subst hl';have hm:=hA.lt;have hx:=XI hA;have he:=vX b (idxs (m+1) [x]);have hil:=idxs_len (m+1) [x];have hi0:idxs (m+1) [x]=[((m+1:Nat):Int)]:=rfl;have hAx:=hA.kids.at 0 (by simp)
 have hsz:(Arb.mk b [x]).size=1+x.size:=by rw [size_mk,sizeL_cons,sizeL_nil];omega
 have e0:(s.code != 0)=false:=by simp [q]
 have cl:=Qz (N:=N) T s b.s 1 a (by omega)
 rw [show ((1:Int)==1)=true from rfl] at cl
 have LL:=UC T s b.s true a;have LR:=V0 T (s:=s) q b.s true a;have S:=YD T s b.s true a;have C:=Yy T s b.s true a;rw [k] at he
 rw [hi0] at hx he hil
 unfold um
 by_cases z:(xn ts s b.s true a).2.code=0
 ·rw [X8 (x:=x) q k (c:=(xn ts s b.s true a).1) (s1:=(xn ts s b.s true a).2) rfl z rfl]
  have zi:(conI ts s b.s true a).2.code=0:=by rw [LR.1.c];exact z
  obtain ⟨r1,r2,r3⟩:=LR.2 zi;have es:=LR.1.e zi;obtain ⟨c1,c2⟩:=C.1 r1;have c2:=c2 rfl;rw [es] at c1 c2 S
  rw [r3 rfl] at c2
  have up:=S.up;clear LR C r1 r2 r3 es zi c1;generalize xn ts s b.s true a=Q at *
  obtain ⟨⟨ty,arg⟩,s1⟩:=Q;dsimp only at *
  have os1:=S.ok hs (by omega)
  have hk:=ih (m+1) hAx e s1 os1 (fun _=>by omega) (by omega)
  obtain ⟨os2,K⟩:=V7 T a hox e os1 (fun _=>by omega)
  have kl:=Za T a x hox e s1;have cd:=WV (T:=ts.map MType.enc) (N:=N) (patS ts a x e s1).2.2 (patS ts a x e s1).1 arg a os2 (fun hz=>by have:=(K hz).2.2.1;omega) (fun hz=>(K hz).2.2.2) (fun hz=>c2.mono (K hz).2.1) (by omega) (by omega)
  unfold um at hk
  generalize patS ts a x e s1=R at *
  obtain ⟨t,e2,s2⟩:=R;dsimp only at *
  have e1:(s1.code != 0)=false:=by simp [z]
  simp only [xM] at cl hk cd ⊢
  refine FI PM Tryz.func36 Tryz.ntmps36 [(9,10,[1,3,9],[(1,0),(1,2),(1,4),(1,5),(1,6),(1,7),(1,8),(3,0),(3,4),(3,5),(3,6),(3,7),(3,8),(9,0)],(lin [1,3,9] [0,2,4,5,6,7,8,1,3,9])),(15,14,[8,12,13],[(12,0),(12,1),(12,2),(12,3),(12,4),(12,5),(12,6),(12,7),(12,9),(12,10),(12,11),(13,11)],(.fl 0 (.fl 1 (.fl 2 (.fl 3 (.fl 4 (.fl 5 (.fl 6 (.fl 7 (.fx 8 (.fl 9 (.fl 10 (.fl 11 (.fx 12 (.fx 13 .nil .no) .no)))) (.fx 12 (.fx 8 (.fl 9 (.fl 10 (.fl 11 (.fx 13 .nil .no)))) .no) .no))))))))))),(16,14,[8,12,13],[(12,0),(12,1),(12,2),(12,3),(12,4),(12,5),(12,6),(12,7),(12,9),(12,10),(12,11),(13,11)],(.fl 0 (.fl 1 (.fl 2 (.fl 3 (.fl 4 (.fl 5 (.fl 6 (.fl 7 (.fx 8 (.fl 9 (.fl 10 (.fl 11 (.fx 12 (.fx 13 .nil .no) .no)))) (.fx 12 (.fx 8 (.fl 9 (.fl 10 (.fl 11 (.fx 13 .nil .no)))) .no) .no))))))))))),(21,14,[8,12,13],[(12,0),(12,1),(12,2),(12,3),(12,4),(12,5),(12,6),(12,7),(12,9),(12,10),(12,11),(13,11)],(.fl 0 (.fl 1 (.fl 2 (.fl 3 (.fl 4 (.fl 5 (.fl 6 (.fl 7 (.fx 8 (.fl 9 (.fl 10 (.fl 11 (.fx 12 (.fx 13 .nil .no) .no)))) (.fx 12 (.fx 8 (.fl 9 (.fl 10 (.fl 11 (.fx 13 .nil .no)))) .no) .no)))))))))))] rfl rfl ?_
  (have hWf:=w6 @e0 @hx @he @hil @e1 @iE_e;repeat' (first|refine zS ?_|refine zI ?_ ?_|refine zH cl ?_|refine zX hk ?_|((with_reducible apply xc);refine xh (hk) ?_;rintro _ _ ⟨rfl,rfl⟩)|refine zH cd ?_|exact zF0|refine zD fun hb=>?_|exact zC|refine zT ?_|fail))
  all_goals first|(show _=_;rw [nc_sc (d:=20) rfl rfl rfl,V2 (d:=20) (by decide) rfl,nc_cal (d:=20) rfl rfl rfl rfl rfl rfl rfl,wg (d:=20) (by decide) rfl,V3 (d:=20) (by decide) rfl rfl rfl rfl rfl,wg (d:=20) (by decide) rfl,wg (d:=20) (by decide) rfl,wg (d:=20) (by decide) rfl];done)|trace_state
 ·rw [XH (l:=[x]) q k (c:=(xn ts s b.s true a).1) (s1:=(xn ts s b.s true a).2) rfl z]
  clear LR C S;generalize xn ts s b.s true a=Q at *
  obtain ⟨⟨ty,arg⟩,s1⟩:=Q;dsimp only at *
  have e1:(s1.code != 0)=true:=by simpa using z
  simp only [xM] at cl ⊢
  refine FI PM Tryz.func36 Tryz.ntmps36 [(9,10,[1,3,9],[(1,0),(1,2),(1,4),(1,5),(1,6),(1,7),(1,8),(3,0),(3,4),(3,5),(3,6),(3,7),(3,8),(9,0)],(lin [1,3,9] [0,2,4,5,6,7,8,1,3,9])),(15,14,[8,12,13],[(12,0),(12,1),(12,2),(12,3),(12,4),(12,5),(12,6),(12,7),(12,9),(12,10),(12,11),(13,11)],(.fl 0 (.fl 1 (.fl 2 (.fl 3 (.fl 4 (.fl 5 (.fl 6 (.fl 7 (.fx 8 (.fl 9 (.fl 10 (.fl 11 (.fx 12 (.fx 13 .nil .no) .no)))) (.fx 12 (.fx 8 (.fl 9 (.fl 10 (.fl 11 (.fx 13 .nil .no)))) .no) .no))))))))))),(16,14,[8,12,13],[(12,0),(12,1),(12,2),(12,3),(12,4),(12,5),(12,6),(12,7),(12,9),(12,10),(12,11),(13,11)],(.fl 0 (.fl 1 (.fl 2 (.fl 3 (.fl 4 (.fl 5 (.fl 6 (.fl 7 (.fx 8 (.fl 9 (.fl 10 (.fl 11 (.fx 12 (.fx 13 .nil .no) .no)))) (.fx 12 (.fx 8 (.fl 9 (.fl 10 (.fl 11 (.fx 13 .nil .no)))) .no) .no))))))))))),(21,14,[8,12,13],[(12,0),(12,1),(12,2),(12,3),(12,4),(12,5),(12,6),(12,7),(12,9),(12,10),(12,11),(13,11)],(.fl 0 (.fl 1 (.fl 2 (.fl 3 (.fl 4 (.fl 5 (.fl 6 (.fl 7 (.fx 8 (.fl 9 (.fl 10 (.fl 11 (.fx 12 (.fx 13 .nil .no) .no)))) (.fx 12 (.fx 8 (.fl 9 (.fl 10 (.fl 11 (.fx 13 .nil .no)))) .no) .no)))))))))))] rfl rfl ?_
  (have hWf:=w5 @e0 @hx @he @hil @e1;repeat' (first|refine zS ?_|refine zI ?_ ?_|refine zH cl ?_|exact zF0|refine zD fun hb=>?_|exact zC|refine zT ?_|fail))
theorem c_patS2(T:yv ts)(nodes:List DPNode)(hl:nodes.length<=30000)(g:List Bnd)(a:Int)(b:PI)(x y:PT)(k:b.kind=5)(ihx:∀ (m:Nat),At PI.node nodes m x->∀ (e:List Bnd) (s:IS),OkS s->(s.code=0->s.nx+2*x.size<=3000000)->g.length+e.length+x.size<=1000000->um ts N nodes g a x m e s)(ihy:∀ (m:Nat),At PI.node nodes m y->∀ (e:List Bnd) (s:IS),OkS s->(s.code=0->s.nx+2*y.size<=3000000)->g.length+e.length+y.size<=1000000->um ts N nodes g a y m e s)(m:Nat)(hA:At PI.node nodes m (.mk b [x,y]))(hox:okP x)(hoy:okP y)(e:List Bnd)(s:IS)(hs:OkS s)(q:s.code=0)(hn:s.nx+2*(Arb.mk b [x,y]).size<=3000000)(hE:g.length+e.length+(Arb.mk b [x,y]).size<=1000000):um ts N nodes g a (.mk b [x,y]) m e s:=by
 have hm:=hA.lt;have hx:=XI hA;have he:=vX b (idxs (m+1) [x,y]);have hil:=idxs_len (m+1) [x,y];have hi0:idxs (m+1) [x,y]=[((m+1:Nat):Int),((m+1+x.size:Nat):Int)]:=rfl;have hAx:=hA.kids.at 0 (by simp)
 have hAy:=hA.kids.at 1 (by simp)
 have hbd:=hA.bd;have hsz:(Arb.mk b [x,y]).size=1+(x.size+y.size):=by rw [size_mk,sizeL_cons,sizeL_cons,sizeL_nil];omega
 have e0:(s.code != 0)=false:=by simp [q]
 have cx:=ihx (m+1) hAx e s hs (fun _=>by omega) (by omega)
 obtain ⟨os1,K⟩:=V7 T a hox e hs (fun _=>by omega)
 have ev:=patS_env (ts:=ts) a x hox e s;have kl:=Za T a x hox e s;have cy:=ihy (m+1+x.size) (by simpa [sizeL_cons,sizeL_nil] using hAy) (patS ts a x e s).2.1 (patS ts a x e s).2.2 os1 (fun hz=>by have:=(K hz).2.2.1;omega) (by omega)
 have kl2:=Za T a y hoy (patS ts a x e s).2.1 (patS ts a x e s).2.2;rw [k] at he
 rw [hi0] at hx he hil
 unfold um at cx cy ⊢
 rw [vW (x:=x) (y:=y) q k (t1:=(patS ts a x e s).1) (e1:=(patS ts a x e s).2.1) (s1:=(patS ts a x e s).2.2) rfl rfl];generalize patS ts a x e s=R at *
 obtain ⟨t,e1,s1⟩:=R;dsimp only at *
 generalize patS ts a y e1 s1=R2 at *
 obtain ⟨u,e2,s2⟩:=R2;dsimp only at *
 have nm:=YO ⟨#[42]⟩ [⟨t⟩,⟨u⟩] (by simp) (by simp only [List.mem_cons,List.not_mem_nil,or_false];rintro _ (rfl|rfl)<;>dsimp only<;>omega)
 have nm:FT 78 [.s (.string ⟨#[42]⟩),.sl 1 [[.sl 3 (t.map TyI.enc)],[.sl 3 (u.map TyI.enc)]]] (fun r _=>r=.ag [.osl 143 3 ((zA::(t++u)).map TyI.own)]):=by
  have e:wK ⟨#[42]⟩ [⟨t⟩,⟨u⟩]=zA::(t++u):=by simp [wK,zA]
  rw [e] at nm
  exact nm
 refine FCon.iceO ?_;simp only [xM] at cx cy ⊢
 refine FI PM Tryz.func36 Tryz.ntmps36 [(9,10,[1,3,9],[(1,0),(1,2),(1,4),(1,5),(1,6),(1,7),(1,8),(3,0),(3,4),(3,5),(3,6),(3,7),(3,8),(9,0)],(lin [1,3,9] [0,2,4,5,6,7,8,1,3,9])),(15,14,[8,12,13],[(12,0),(12,1),(12,2),(12,3),(12,4),(12,5),(12,6),(12,7),(12,9),(12,10),(12,11),(13,11)],(.fl 0 (.fl 1 (.fl 2 (.fl 3 (.fl 4 (.fl 5 (.fl 6 (.fl 7 (.fx 8 (.fl 9 (.fl 10 (.fl 11 (.fx 12 (.fx 13 .nil .no) .no)))) (.fx 12 (.fx 8 (.fl 9 (.fl 10 (.fl 11 (.fx 13 .nil .no)))) .no) .no))))))))))),(16,14,[8,12,13],[(12,0),(12,1),(12,2),(12,3),(12,4),(12,5),(12,6),(12,7),(12,9),(12,10),(12,11),(13,11)],(.fl 0 (.fl 1 (.fl 2 (.fl 3 (.fl 4 (.fl 5 (.fl 6 (.fl 7 (.fx 8 (.fl 9 (.fl 10 (.fl 11 (.fx 12 (.fx 13 .nil .no) .no)))) (.fx 12 (.fx 8 (.fl 9 (.fl 10 (.fl 11 (.fx 13 .nil .no)))) .no) .no))))))))))),(21,14,[8,12,13],[(12,0),(12,1),(12,2),(12,3),(12,4),(12,5),(12,6),(12,7),(12,9),(12,10),(12,11),(13,11)],(.fl 0 (.fl 1 (.fl 2 (.fl 3 (.fl 4 (.fl 5 (.fl 6 (.fl 7 (.fx 8 (.fl 9 (.fl 10 (.fl 11 (.fx 12 (.fx 13 .nil .no) .no)))) (.fx 12 (.fx 8 (.fl 9 (.fl 10 (.fl 11 (.fx 13 .nil .no)))) .no) .no)))))))))))] rfl rfl ?_
 (have hWf:=w5 @e0 @hx @he @hil @iE_e;repeat' (first|refine zS ?_|refine zI ?_ ?_|refine zX cx ?_|((with_reducible apply xc);refine xh (cx) ?_;rintro _ _ ⟨rfl,rfl⟩)|refine zX cy ?_|((with_reducible apply xc);refine xh (cy) ?_;rintro _ _ ⟨rfl,rfl⟩)|refine zK nm ?_|exact zF0|refine zD fun hb=>?_|exact zC|refine zT ?_|fail))
 all_goals first|(show _=_;rw [nc_sc (d:=14) rfl rfl rfl,V2 (d:=14) (by decide) rfl,nc_cal (d:=14) rfl rfl rfl rfl rfl rfl rfl,wg (d:=14) (by decide) rfl,V3 (d:=14) (by decide) rfl rfl rfl rfl rfl,wg (d:=14) (by decide) rfl,wg (d:=14) (by decide) rfl,wg (d:=14) (by decide) rfl];done)|(show _=_;rw [nc_sc (d:=16) rfl rfl rfl,V2 (d:=16) (by decide) rfl,nc_cal (d:=16) rfl rfl rfl rfl rfl rfl rfl,wg (d:=16) (by decide) rfl,V3 (d:=16) (by decide) rfl rfl rfl rfl rfl,wg (d:=16) (by decide) rfl,wg (d:=16) (by decide) rfl,wg (d:=16) (by decide) rfl];done)|exact xP TyI.pure _ _ (zA::(t++u))|rfl|trace_state
theorem c_patS(T:yv ts)(nodes:List DPNode)(hl:nodes.length<=30000)(g:List Bnd)(a:Int):∀ (t:PT) (m:Nat),At PI.node nodes m t->okP t->∀ (e:List Bnd) (s:IS),OkS s->(s.code=0->s.nx+2*t.size<=3000000)->g.length+e.length+t.size<=1000000->um ts N nodes g a t m e s:=fun t=>by
 induction t using Arb.ind with
 | h b l ih=>
  intro m hA ho e s hs hn hE;have hel:=envE_len g e;have hm:=hA.lt;have hx:=XI hA;have he:=vX b (idxs (m+1) l);have hil:=idxs_len (m+1) l;have hsz:=size_mk b l;unfold um
  by_cases q:s.code=0
  ·have e0:(s.code != 0)=false:=by simp [q]
   have hn:=hn q;rcases ho.root with ⟨k,hl',-,-⟩|⟨k,hl',-,-⟩|⟨k,hl',-,-,-⟩|⟨k,hl',-,-⟩|⟨c,x,y,k,hl',-,-,-⟩|⟨x,k,hl',-,-⟩|⟨x,y,k,hl',-,-⟩|⟨k,hl',-,-⟩
   ·rw [Ya q k]
    rw [k] at he
    have nw:=YP (T:=ts.map MType.enc) (N:=N) s (by omega)
    simp only [xM] at nw ⊢
    refine FI PM Tryz.func36 Tryz.ntmps36 [(9,10,[1,3,9],[(1,0),(1,2),(1,4),(1,5),(1,6),(1,7),(1,8),(3,0),(3,4),(3,5),(3,6),(3,7),(3,8),(9,0)],(lin [1,3,9] [0,2,4,5,6,7,8,1,3,9])),(15,14,[8,12,13],[(12,0),(12,1),(12,2),(12,3),(12,4),(12,5),(12,6),(12,7),(12,9),(12,10),(12,11),(13,11)],(.fl 0 (.fl 1 (.fl 2 (.fl 3 (.fl 4 (.fl 5 (.fl 6 (.fl 7 (.fx 8 (.fl 9 (.fl 10 (.fl 11 (.fx 12 (.fx 13 .nil .no) .no)))) (.fx 12 (.fx 8 (.fl 9 (.fl 10 (.fl 11 (.fx 13 .nil .no)))) .no) .no))))))))))),(16,14,[8,12,13],[(12,0),(12,1),(12,2),(12,3),(12,4),(12,5),(12,6),(12,7),(12,9),(12,10),(12,11),(13,11)],(.fl 0 (.fl 1 (.fl 2 (.fl 3 (.fl 4 (.fl 5 (.fl 6 (.fl 7 (.fx 8 (.fl 9 (.fl 10 (.fl 11 (.fx 12 (.fx 13 .nil .no) .no)))) (.fx 12 (.fx 8 (.fl 9 (.fl 10 (.fl 11 (.fx 13 .nil .no)))) .no) .no))))))))))),(21,14,[8,12,13],[(12,0),(12,1),(12,2),(12,3),(12,4),(12,5),(12,6),(12,7),(12,9),(12,10),(12,11),(13,11)],(.fl 0 (.fl 1 (.fl 2 (.fl 3 (.fl 4 (.fl 5 (.fl 6 (.fl 7 (.fx 8 (.fl 9 (.fl 10 (.fl 11 (.fx 12 (.fx 13 .nil .no) .no)))) (.fx 12 (.fx 8 (.fl 9 (.fl 10 (.fl 11 (.fx 13 .nil .no)))) .no) .no)))))))))))] rfl rfl ?_
    (have hWf:=w4 @e0 @hx @he @hil;repeat' (first|refine zS ?_|refine zI ?_ ?_|refine zH nw ?_|exact zF0|refine zD fun hb=>?_|exact zC|refine zT ?_|fail))
   ·rw [Zb q k,envE_cons]
    rw [k] at he
    have nw:=YP (T:=ts.map MType.enc) (N:=N) s (by omega)
    refine FCon.tupR (a:=envE g e++[[.s (.string b.s),.sl 3 [(fvI s.nx).enc],.nil]]) (FCon.iceO ?_) ?_
    ·simp only [xM] at nw ⊢
     refine FI PM Tryz.func36 Tryz.ntmps36 [(9,10,[1,3,9],[(1,0),(1,2),(1,4),(1,5),(1,6),(1,7),(1,8),(3,0),(3,4),(3,5),(3,6),(3,7),(3,8),(9,0)],(lin [1,3,9] [0,2,4,5,6,7,8,1,3,9])),(15,14,[8,12,13],[(12,0),(12,1),(12,2),(12,3),(12,4),(12,5),(12,6),(12,7),(12,9),(12,10),(12,11),(13,11)],(.fl 0 (.fl 1 (.fl 2 (.fl 3 (.fl 4 (.fl 5 (.fl 6 (.fl 7 (.fx 8 (.fl 9 (.fl 10 (.fl 11 (.fx 12 (.fx 13 .nil .no) .no)))) (.fx 12 (.fx 8 (.fl 9 (.fl 10 (.fl 11 (.fx 13 .nil .no)))) .no) .no))))))))))),(16,14,[8,12,13],[(12,0),(12,1),(12,2),(12,3),(12,4),(12,5),(12,6),(12,7),(12,9),(12,10),(12,11),(13,11)],(.fl 0 (.fl 1 (.fl 2 (.fl 3 (.fl 4 (.fl 5 (.fl 6 (.fl 7 (.fx 8 (.fl 9 (.fl 10 (.fl 11 (.fx 12 (.fx 13 .nil .no) .no)))) (.fx 12 (.fx 8 (.fl 9 (.fl 10 (.fl 11 (.fx 13 .nil .no)))) .no) .no))))))))))),(21,14,[8,12,13],[(12,0),(12,1),(12,2),(12,3),(12,4),(12,5),(12,6),(12,7),(12,9),(12,10),(12,11),(13,11)],(.fl 0 (.fl 1 (.fl 2 (.fl 3 (.fl 4 (.fl 5 (.fl 6 (.fl 7 (.fx 8 (.fl 9 (.fl 10 (.fl 11 (.fx 12 (.fx 13 .nil .no) .no)))) (.fx 12 (.fx 8 (.fl 9 (.fl 10 (.fl 11 (.fx 13 .nil .no)))) .no) .no)))))))))))] rfl rfl ?_
     (have hWf:=w5 @e0 @hx @he @hil @envE_frz;repeat' (first|refine zS ?_|refine zI ?_ ?_|refine zH nw ?_|exact zF0|refine zD fun hb=>?_|exact zC|refine zT ?_|fail))
     all_goals first|omega|trace_state
    ·exact RW.sl (RWs.app (RWs.cons (Rr.cons (RW.refl _) (Rr.cons (RW.refl _) (Rr.cons (RW.nilS 1) (Rr.refl [])))) (RWs.refl [])))
   ·rw [Y9 q k]
    rw [k] at he
    have nb:=ZC ⟨#[105,110,116]⟩;simp only [xM];refine FI PM Tryz.func36 Tryz.ntmps36 [(9,10,[1,3,9],[(1,0),(1,2),(1,4),(1,5),(1,6),(1,7),(1,8),(3,0),(3,4),(3,5),(3,6),(3,7),(3,8),(9,0)],(lin [1,3,9] [0,2,4,5,6,7,8,1,3,9])),(15,14,[8,12,13],[(12,0),(12,1),(12,2),(12,3),(12,4),(12,5),(12,6),(12,7),(12,9),(12,10),(12,11),(13,11)],(.fl 0 (.fl 1 (.fl 2 (.fl 3 (.fl 4 (.fl 5 (.fl 6 (.fl 7 (.fx 8 (.fl 9 (.fl 10 (.fl 11 (.fx 12 (.fx 13 .nil .no) .no)))) (.fx 12 (.fx 8 (.fl 9 (.fl 10 (.fl 11 (.fx 13 .nil .no)))) .no) .no))))))))))),(16,14,[8,12,13],[(12,0),(12,1),(12,2),(12,3),(12,4),(12,5),(12,6),(12,7),(12,9),(12,10),(12,11),(13,11)],(.fl 0 (.fl 1 (.fl 2 (.fl 3 (.fl 4 (.fl 5 (.fl 6 (.fl 7 (.fx 8 (.fl 9 (.fl 10 (.fl 11 (.fx 12 (.fx 13 .nil .no) .no)))) (.fx 12 (.fx 8 (.fl 9 (.fl 10 (.fl 11 (.fx 13 .nil .no)))) .no) .no))))))))))),(21,14,[8,12,13],[(12,0),(12,1),(12,2),(12,3),(12,4),(12,5),(12,6),(12,7),(12,9),(12,10),(12,11),(13,11)],(.fl 0 (.fl 1 (.fl 2 (.fl 3 (.fl 4 (.fl 5 (.fl 6 (.fl 7 (.fx 8 (.fl 9 (.fl 10 (.fl 11 (.fx 12 (.fx 13 .nil .no) .no)))) (.fx 12 (.fx 8 (.fl 9 (.fl 10 (.fl 11 (.fx 13 .nil .no)))) .no) .no)))))))))))] rfl rfl ?_
    (have hWf:=w4 @e0 @hx @he @hil;repeat' (first|refine zS ?_|refine zI ?_ ?_|refine zK nb ?_|exact zF0|refine zD fun hb=>?_|exact zC|refine zT ?_|fail))
    all_goals rfl
   ·subst hl'
    have cl:=Qz (N:=N) T s b.s 0 a (by omega)
    rw [show ((0:Int)==1)=false from rfl] at cl
    rw [X7 q k (c:=(xn ts s b.s false a).1) (s1:=(xn ts s b.s false a).2) rfl];rw [k] at he
    generalize xn ts s b.s false a=Q at *
    obtain ⟨⟨ty,arg⟩,s1⟩:=Q;dsimp only at *
    simp only [xM] at cl ⊢
    cases z:(s1.code != 0)
    all_goals
     refine FI PM Tryz.func36 Tryz.ntmps36 [(9,10,[1,3,9],[(1,0),(1,2),(1,4),(1,5),(1,6),(1,7),(1,8),(3,0),(3,4),(3,5),(3,6),(3,7),(3,8),(9,0)],(lin [1,3,9] [0,2,4,5,6,7,8,1,3,9])),(15,14,[8,12,13],[(12,0),(12,1),(12,2),(12,3),(12,4),(12,5),(12,6),(12,7),(12,9),(12,10),(12,11),(13,11)],(.fl 0 (.fl 1 (.fl 2 (.fl 3 (.fl 4 (.fl 5 (.fl 6 (.fl 7 (.fx 8 (.fl 9 (.fl 10 (.fl 11 (.fx 12 (.fx 13 .nil .no) .no)))) (.fx 12 (.fx 8 (.fl 9 (.fl 10 (.fl 11 (.fx 13 .nil .no)))) .no) .no))))))))))),(16,14,[8,12,13],[(12,0),(12,1),(12,2),(12,3),(12,4),(12,5),(12,6),(12,7),(12,9),(12,10),(12,11),(13,11)],(.fl 0 (.fl 1 (.fl 2 (.fl 3 (.fl 4 (.fl 5 (.fl 6 (.fl 7 (.fx 8 (.fl 9 (.fl 10 (.fl 11 (.fx 12 (.fx 13 .nil .no) .no)))) (.fx 12 (.fx 8 (.fl 9 (.fl 10 (.fl 11 (.fx 13 .nil .no)))) .no) .no))))))))))),(21,14,[8,12,13],[(12,0),(12,1),(12,2),(12,3),(12,4),(12,5),(12,6),(12,7),(12,9),(12,10),(12,11),(13,11)],(.fl 0 (.fl 1 (.fl 2 (.fl 3 (.fl 4 (.fl 5 (.fl 6 (.fl 7 (.fx 8 (.fl 9 (.fl 10 (.fl 11 (.fx 12 (.fx 13 .nil .no) .no)))) (.fx 12 (.fx 8 (.fl 9 (.fl 10 (.fl 11 (.fx 13 .nil .no)))) .no) .no)))))))))))] rfl rfl ?_
     (have hWf:=w5 @e0 @hx @he @hil @z;repeat' (first|refine zS ?_|refine zI ?_ ?_|refine zH cl ?_|exact zF0|refine zD fun hb=>?_|exact zC|refine zT ?_|fail))
   ·exact c_patS1 T nodes hl g a b l _ k hl' (fun m' h1 e s hs hn hE=>ih _ (by rw [hl'];exact List.mem_singleton.2 rfl) m' h1 (ho.kid _ (by rw [hl'];exact List.mem_singleton.2 rfl)) e s hs hn hE) m hA (ho.kid _ (by rw [hl'];exact List.mem_singleton.2 rfl)) ho e s hs q hn hE
   ·exact c_patS1 T nodes hl g a b l _ k hl' (fun m' h1 e s hs hn hE=>ih _ (by rw [hl'];exact List.mem_singleton.2 rfl) m' h1 (ho.kid _ (by rw [hl'];exact List.mem_singleton.2 rfl)) e s hs hn hE) m hA (ho.kid _ (by rw [hl'];exact List.mem_singleton.2 rfl)) ho e s hs q hn hE
   ·subst hl'
    exact c_patS2 T nodes hl g a b x y k (fun m' h1 e s hs hn hE=>ih x (by simp) m' h1 (ho.kid x (by simp)) e s hs hn hE) (fun m' h1 e s hs hn hE=>ih y (by simp) m' h1 (ho.kid y (by simp)) e s hs hn hE) m hA (ho.kid x (by simp)) (ho.kid y (by simp)) e s hs q hn hE
   ·rw [X9 q k]
    rw [k] at he
    have nb:=ZC ⟨#[117,110,105,116]⟩;simp only [xM];refine FI PM Tryz.func36 Tryz.ntmps36 [(9,10,[1,3,9],[(1,0),(1,2),(1,4),(1,5),(1,6),(1,7),(1,8),(3,0),(3,4),(3,5),(3,6),(3,7),(3,8),(9,0)],(lin [1,3,9] [0,2,4,5,6,7,8,1,3,9])),(15,14,[8,12,13],[(12,0),(12,1),(12,2),(12,3),(12,4),(12,5),(12,6),(12,7),(12,9),(12,10),(12,11),(13,11)],(.fl 0 (.fl 1 (.fl 2 (.fl 3 (.fl 4 (.fl 5 (.fl 6 (.fl 7 (.fx 8 (.fl 9 (.fl 10 (.fl 11 (.fx 12 (.fx 13 .nil .no) .no)))) (.fx 12 (.fx 8 (.fl 9 (.fl 10 (.fl 11 (.fx 13 .nil .no)))) .no) .no))))))))))),(16,14,[8,12,13],[(12,0),(12,1),(12,2),(12,3),(12,4),(12,5),(12,6),(12,7),(12,9),(12,10),(12,11),(13,11)],(.fl 0 (.fl 1 (.fl 2 (.fl 3 (.fl 4 (.fl 5 (.fl 6 (.fl 7 (.fx 8 (.fl 9 (.fl 10 (.fl 11 (.fx 12 (.fx 13 .nil .no) .no)))) (.fx 12 (.fx 8 (.fl 9 (.fl 10 (.fl 11 (.fx 13 .nil .no)))) .no) .no))))))))))),(21,14,[8,12,13],[(12,0),(12,1),(12,2),(12,3),(12,4),(12,5),(12,6),(12,7),(12,9),(12,10),(12,11),(13,11)],(.fl 0 (.fl 1 (.fl 2 (.fl 3 (.fl 4 (.fl 5 (.fl 6 (.fl 7 (.fx 8 (.fl 9 (.fl 10 (.fl 11 (.fx 12 (.fx 13 .nil .no) .no)))) (.fx 12 (.fx 8 (.fl 9 (.fl 10 (.fl 11 (.fx 13 .nil .no)))) .no) .no)))))))))))] rfl rfl ?_
    (have hWf:=w4 @e0 @hx @he @hil;repeat' (first|refine zS ?_|refine zI ?_ ?_|refine zK nb ?_|exact zF0|refine zD fun hb=>?_|exact zC|refine zT ?_|fail))
    all_goals rfl
  ·have e0:(s.code != 0)=true:=by simpa using q
   rw [yF q];refine FCon.tupA ?_;simp only [xM];refine FI PM Tryz.func36 Tryz.ntmps36 [(9,10,[1,3,9],[(1,0),(1,2),(1,4),(1,5),(1,6),(1,7),(1,8),(3,0),(3,4),(3,5),(3,6),(3,7),(3,8),(9,0)],(lin [1,3,9] [0,2,4,5,6,7,8,1,3,9])),(15,14,[8,12,13],[(12,0),(12,1),(12,2),(12,3),(12,4),(12,5),(12,6),(12,7),(12,9),(12,10),(12,11),(13,11)],(.fl 0 (.fl 1 (.fl 2 (.fl 3 (.fl 4 (.fl 5 (.fl 6 (.fl 7 (.fx 8 (.fl 9 (.fl 10 (.fl 11 (.fx 12 (.fx 13 .nil .no) .no)))) (.fx 12 (.fx 8 (.fl 9 (.fl 10 (.fl 11 (.fx 13 .nil .no)))) .no) .no))))))))))),(16,14,[8,12,13],[(12,0),(12,1),(12,2),(12,3),(12,4),(12,5),(12,6),(12,7),(12,9),(12,10),(12,11),(13,11)],(.fl 0 (.fl 1 (.fl 2 (.fl 3 (.fl 4 (.fl 5 (.fl 6 (.fl 7 (.fx 8 (.fl 9 (.fl 10 (.fl 11 (.fx 12 (.fx 13 .nil .no) .no)))) (.fx 12 (.fx 8 (.fl 9 (.fl 10 (.fl 11 (.fx 13 .nil .no)))) .no) .no))))))))))),(21,14,[8,12,13],[(12,0),(12,1),(12,2),(12,3),(12,4),(12,5),(12,6),(12,7),(12,9),(12,10),(12,11),(13,11)],(.fl 0 (.fl 1 (.fl 2 (.fl 3 (.fl 4 (.fl 5 (.fl 6 (.fl 7 (.fx 8 (.fl 9 (.fl 10 (.fl 11 (.fx 12 (.fx 13 .nil .no) .no)))) (.fx 12 (.fx 8 (.fl 9 (.fl 10 (.fl 11 (.fx 13 .nil .no)))) .no) .no)))))))))))] rfl rfl ?_
   (have hWf:=w1 @e0;repeat' (first|refine zS ?_|refine zI ?_ ?_|exact zF0|refine zD fun hb=>?_|exact zC|refine zT ?_|fail))
end
end
section
open Go.RowKit
theorem xcF(xs:List TyI)(k:Nat)(h:k<xs.length):(yu xs).take (k+1)=(yu xs).take k++[yJ (xp xs) xs[k]]:=by
 unfold yu;rw [List.take_succ_eq_append_getElem (by rw [List.length_map];exact h),List.getElem_map]
theorem seen_get{l:List Int}{j:Nat}(h:j<l.length):(l.map iE).getD j []=[.s (.int .i64 l[j])]:=xb iE l j h
theorem xcw(xs:List TyI)(hl:xs.length<=1000000):FT 38 [.ag [.sl 3 (xs.map TyI.enc)]] (fun r _=>r=.ag [.osl 143 3 ((yu xs).map TyI.own)]):=by
 have hcl:=canonM_len' xs;refine FI PM Tryz.func38 Tryz.ntmps38 [(8,11,[],[],(lin [] [0,1,2,3,4,5,6,7,8,9,10]))] rfl rfl ?_
 (have hWf:=f0;repeat' (first|refine zS ?_|refine zI ?_ ?_|exact zF0|refine zD fun hb=>?_|exact zC|refine zT ?_|fail))
 refine vQ (Yt 4 0 777 (row:=[.nil]) 143 3 (by simp only [go_sem,simprocAttr]) rfl (by decide) rfl (xj ?_))
 simp only [go_sem,simprocAttr];refine xd (fun n σ=>∃ k:Nat,k<=xs.length/\n=xs.length - k/\σ.t 1=.bx 1 0/\σ.b 1=some (.box [.sl 3 (xs.map TyI.enc)])/\σ.t 2=.bx 2 0/\σ.b 2=some (.box [.nil])/\σ.t 3=.bs 8 1 (xp (xs.take k)).length/\σ.b 8=some (.arr 3 1 ((xp (xs.take k)).map iE))/\σ.t 4=.bx 4 0/\σ.b 4=some (.box [.bs 777 3 k])/\σ.b 777=some (.arr 143 3 (((yu xs).take k).map TyI.own))/\σ.t 11=.sl 3 (xs.map TyI.enc)/\σ.t 12=.s (.int .i64 xs.length)/\σ.t 13=.s (.int .i64 k)) xs.length ⟨0,by omega,by omega,?_⟩ ?_
 ·simp only [go_sem,simprocAttr,Int.natCast_zero,List.take_zero]
  exact ⟨rfl,rfl⟩
 ·rintro n σ ⟨k,hk,rfl,h1,b1,h2,b2,h3,b3,h4,b4,b7,h11,h12,h13⟩ K' hK
  by_cases hlt:k<xs.length
  ·have hx:=xb TyI.enc xs k hlt
   have he:=TyI.enc_eq xs[k];have hct:=xcF xs k hlt;have hvt:=vl xs k hlt;have hco:=xcE xs k hlt;have hvl:=Yj xs k hk;have htl:((yu xs).take k).length=k:=by rw [List.length_take,hcl];omega
   generalize hA:xp (xs.take k)=A at *
   generalize hB:(yu xs).take k=B at *
   generalize hxk:xs[k]=x at *
   cases hvb:varB x with
   | false=>
    have e1:(x.name.toList==[])=false:=by unfold varB at hvb;simpa using hvb
    have hst:x0 A x=A:=vm (fun q=>by rw [hvb] at q;cases q)
    (have hWf:=w10 @h1 @b1 @h2 @b2 @h3 @b3 @h4 @b4 @b7 (ai @h11<|ai @h12<|ai @h13<|ai @hx<|ai @he<|ai @e1<|ai @lit0<|@htl);repeat' (first|refine zS ?_|refine zI ?_ ?_|exact zF0|refine zD fun hb=>?_|exact zC|refine zT ?_|fail))
    refine hK (xs.length - (k+1)) _ (by omega) ⟨k+1,by omega,rfl,?_⟩
    simp only [go_sem,simprocAttr,h1,b1,h2,b2,h3,b3,h4,b4,b7,h11,h12,h13,Int.natCast_succ,hvt,hst,hct,List.map_append];rw [xcC _ hvb];rfl
   | true=>
    have e1:(x.name.toList==[])=true:=by unfold varB at hvb;simpa using hvb
    (have hWf:=w10 @h1 @b1 @h2 @b2 @h3 @b3 @h4 @b4 @b7 (ai @h11<|ai @h12<|ai @h13<|ai @hx<|ai @he<|ai @e1<|ai @lit0<|@htl);repeat' (first|refine zS ?_|refine zI ?_ ?_|exact zF0|refine zD fun hb=>?_|exact zC|refine zT ?_|fail))
    refine xd (fun n σ=>∃ j:Nat,j<=A.length/\n=A.length - j/\(∀ i (h:i<A.length),i<j->A[i]≠x.v)/\σ.t 1=.bx 1 0/\σ.b 1=some (.box [.sl 3 (xs.map TyI.enc)])/\σ.t 2=.bx 2 0/\σ.b 2=some (.box [.nil])/\σ.t 3=.bs 8 1 A.length/\σ.b 8=some (.arr 3 1 (A.map iE))/\σ.t 4=.bx 4 0/\σ.b 4=some (.box [.bs 777 3 k])/\σ.b 777=some (.arr 143 3 (B.map TyI.own))/\σ.t 11=.sl 3 (xs.map TyI.enc)/\σ.t 12=.s (.int .i64 xs.length)/\σ.t 13=.s (.int .i64 k)/\σ.t 6=.bx 6 0/\σ.b 6=some (.box [.s (.int .i64 x.v),.s (.string x.name),.s (.int .i64 x.ar)])/\σ.t 7=.s (.int .i64 j)) A.length ⟨0,by omega,by omega,fun i _ h=>absurd h (Nat.not_lt_zero _),?_⟩ ?_
    ·simp only [go_sem,simprocAttr,h1,b1,h2,b2,h3,b3,h4,b4,b7,h11,h12,h13,Int.natCast_zero]
     all_goals trace_state
    ·rintro n σ ⟨j,hj,rfl,hno,g1,c1,g2,c2,g3,c3,g4,c4,c7,g11,g12,g13,g6,c6,g7⟩ K'' hK''
     by_cases hlj:j<A.length
     ·have hy:=seen_get hlj
      by_cases hv:A[j]=x.v
      ·have e2:(A[j]==x.v)=true:=by simpa using hv
       have e3:((j:Int)==(A.length:Int))=false:=by simp;omega
       have hi:idxN A x.v=j:=idxN_at A x.v j hlj hv fun i hi=>hno i (by omega) hi
       have hm:x.v∈A:=hv ▸ List.getElem_mem hlj;have hst:x0 A x=A:=vm (fun _=>hm)
       have hcs:yJ (xp xs) x=⟨(j:Nat),x.name,x.ar⟩:=by rw [hco,hvt,xb7 hvb hm,hi]
       (have hWf:=w10 @g1 @c1 @g2 @c2 @g3 @c3 @g4 @c4 @c7 (ai @g11<|ai @g12<|ai @g13<|ai @g6<|ai @c6<|ai @g7<|ai @hy<|ai @e2<|ai @e3<|@htl);repeat' (first|refine zS ?_|refine zI ?_ ?_|exact zF0|refine zD fun hb=>?_|exact zC|refine zT ?_|fail))
       refine hK (xs.length - (k+1)) _ (by omega) ⟨k+1,by omega,rfl,?_⟩
       simp only [go_sem,simprocAttr,g1,c1,g2,c2,g3,c3,g4,c4,c7,g11,g12,g13,g6,c6,g7,Int.natCast_succ,hvt,hst,hct,hcs,List.map_append]
       rfl
      ·have e2:(A[j]==x.v)=false:=by simpa using hv
       (have hWf:=w10 @g1 @c1 @g2 @c2 @g3 @c3 @g4 @c4 @c7 (ai @g11<|ai @g12<|ai @g13<|ai @g6<|ai @c6<|ai @g7<|ai @hy<|ai @e2<|@htl);repeat' (first|refine zS ?_|refine zI ?_ ?_|exact zF0|refine zD fun hb=>?_|exact zC|refine zT ?_|fail))
       refine hK'' (A.length - (j+1)) _ (by omega) ⟨j+1,by omega,rfl,fun i h hi=>?_,?_⟩
       ·rcases Nat.lt_or_ge i j with q|q
        ·exact hno i h q
        ·obtain rfl:i=j:=by omega
         exact hv
       ·simp only [go_sem,simprocAttr,g1,c1,g2,c2,g3,c3,g4,c4,c7,g11,g12,g13,g6,c6,g7,Int.natCast_succ]
        all_goals trace_state
     ·obtain rfl:j=A.length:=by omega
      have hm:x.v∉A:=fun q=>by
       obtain ⟨i,hi,e⟩:=List.getElem_of_mem q;exact hno i hi hi e
      have hst:x0 A x=A++[x.v]:=XO hvb hm;have hcs:yJ (xp xs) x=⟨(A.length:Nat),x.name,x.ar⟩:=by rw [hco,hvt,xcD hvb hm]
      have hdl:decide (((A.length:Nat):Int)<(A.length:Nat))=false:=by simp
      have hx0:(A.map iE).getD A.length []=[]:=by rw [List.getD_eq_getElem?_getD,List.getElem?_eq_none (by rw [List.length_map];omega)];rfl
      (have hWf:=w10 @g1 @c1 @g2 @c2 @g3 @c3 @g4 @c4 @c7 (ai @g11<|ai @g12<|ai @g13<|ai @g6<|ai @c6<|ai @g7<|ai @hdl<|ai @hx0<|@htl);repeat' (first|refine zS ?_|refine zI ?_ ?_|exact zF0|refine zD fun hb=>?_|exact zC|refine zT ?_|fail))
      refine hK (xs.length - (k+1)) _ (by omega) ⟨k+1,by omega,rfl,?_⟩
      simp only [go_sem,simprocAttr,g1,c1,g2,c2,g3,c3,g4,c4,c7,g11,g12,g13,g6,c6,g7,Int.natCast_succ,hvt,hst,hct,hcs,List.map_append,List.length_append];exact ⟨rfl,rfl⟩
  ·obtain rfl:k=xs.length:=by omega
   have htk:(yu xs).take xs.length=yu xs:=by rw [<- hcl,List.take_length]
   rw [htk] at b7
   (have hWf:=w10 @h1 @b1 @h2 @b2 @h3 @b3 @h4 @b4 @b7 (ai @h11<|ai @h12<|ai @h13<|@hcl);repeat' (first|refine zS ?_|refine zI ?_ ?_|exact zF0|refine zD fun hb=>?_|exact zC|refine zT ?_|fail))
   all_goals trace_state
end
end Go.Proofs.YtmnokalddmlogaaGreat
