/- Parts of the proof. -/
import Derived.Test.YtmnokalddmlogaaGreatP10
set_option linter.unusedSimpArgs false
set_option linter.unusedVariables false
set_option maxRecDepth 100000
set_option maxHeartbeats 8000000
namespace Go.Proofs.YtmnokalddmlogaaGreat
section
open Go.RowKit Arb
theorem xa1(p:MProgram)(ho:p.ok)(hs:p.sm)(hp:yq p=false):FT 34 [.ag p.enc] (fun r _=>r=.tup [.s (.int .i64 1),.s (.int .i64 0)]):=by
 have hc:=XX p ho hs;rw [hp,MProgram.enc_eq] at hc
 rw [MProgram.enc_eq];refine FI PM Tryz.func34 Tryz.ntmps34 [(10,8,[],[],(lin [] [0,1,2,3,4,5,6,7]))] rfl rfl ?_
 (have hWf:=f0;repeat' (first|refine zS ?_|refine zI ?_ ?_|refine zK hc ?_|exact zF0|refine zD fun hb=>?_|exact zC|refine zT ?_|fail))
theorem ZE(p:MProgram)(ho:p.ok)(hs:p.sm):FT 34 [.ag p.enc] (fun r _=>∃ z i:Int,r=.tup [.s (.int .i64 z),.s (.int .i64 i)]/\(z=0 ↔ yq p=true/\AllI p.types)):=by
 cases hp:yq p with
 | true=>exact (xb5 p ho hs hp).mono fun r o ⟨z,i,h1,h2⟩=>⟨z,i,h1,by rw [h2,all_IR hp];simp⟩
 | false=>exact (xa1 p ho hs hp).mono fun r o h=>⟨1,0,h,by simp⟩
theorem toldM_rl{s s':IS}{t t':List TyI}(h:Rl s s')(ht:s.code=0->t=t'):zd s t=zd s' t':=by
 unfold zd
 by_cases q:s.code=0
 ·obtain rfl:=h.e q
  rw [ht q]
 ·rw [if_pos q,if_pos (by rw [<- h.c];exact q),h.c]
theorem FCon.tupA1{P:Program}{f:FuncId}{args:List D}{k:Nat}{c:D}(h:FCon P f args (fun r _=>r=.tup [.ag [.nil],c])):FCon P f args (fun r _=>r=.tup [.ag [.sl k []],c]):=(FCon.tupA (FCon.noout h)).mono fun r o q=>q.1
theorem VO(p:MProgram)(l:List MPat)(ho:p.ok)(hs:p.sm)(hol:∀ q∈l,q.ok)(hsl:smS MPat.sm l)(h:¬ Xx p l):FT 10 [.ag p.enc,.sl 1 (l.map MPat.enc)] (fun r _=>r=.tup [.ag [.sl 3 []],.s (.int .i64 1)]):=by
 have hl:=hsl.1;have hck:=ZE p ho hs;refine FCon.tupA1 ?_;rw [MProgram.enc_eq] at hck ⊢
 refine FI PM Tryz.func10 Tryz.ntmps10 [(21,6,[5],[(5,1),(5,2),(5,3),(5,4)],(lin [5] [0,1,2,3,4,5])),(22,5,[],[],(lin [] [0,1,2,3,4]))] rfl rfl ?_
 iterate 2 (refine xj ?_;simp only [go_sem,simprocAttr];(have hWf:=f0;repeat' (first|refine zY ?_|refine zI ?_ ?_|((with_reducible apply xc);refine xh (hck) ?_;rintro _ _ ⟨z,i,rfl,hz⟩)|refine zU hck ?_|exact zF1|refine zD fun hb=>?_|exact zC|refine zT ?_|fail)))
 by_cases hz0:z=0
 ·obtain ⟨hp,hA⟩:=hz.1 hz0
  subst hz0;cases he:l.isEmpty with
  | true=>
   obtain rfl:=List.isEmpty_iff.1 he
   (have hWf:=f0;repeat' (first|refine zS ?_|refine zI ?_ ?_|exact zF0|refine zD fun hb=>?_|exact zC|refine zT ?_|fail))
  | false=>
   have hne:l≠[]:=fun e=>by rw [e] at he;cases he
   have hpos:=List.length_pos_iff.2 hne;have e1:((l.length:Int)==0)=false:=by rw [beq_eq_false_iff_ne];omega
   (have hWf:=w1 @e1;repeat' (first|refine zS ?_|refine zI ?_ ?_|exact zF0|refine zD fun hb=>?_|exact zC|refine zT ?_|fail))
   refine xd (fun n σ=>∃ k:Nat,k<=l.length/\n=l.length - k/\(∀ i (hi:i<l.length),i<k->patM l[i].nodes=true)/\σ.t 4=.bx 4 0/\σ.b 4=some (.box [.nil])/\σ.t 29=.sl 1 (l.map MPat.enc)/\σ.t 30=.s (.int .i64 l.length)/\σ.t 31=.s (.int .i64 k)) l.length ⟨0,by omega,by omega,fun i _ q=>absurd q (Nat.not_lt_zero _),?_⟩ ?_
   ·simp only [go_sem,simprocAttr,Int.natCast_zero]
    done
   ·rintro n σ ⟨k,hk,rfl,hall,h4,b4,h29,h30,h31⟩ K' hK
    by_cases hlt:k<l.length
    ·have hmem:=List.getElem_mem hlt
     have hx:=xb MPat.enc l k hlt;have he2:=MPat.enc_eq l[k];have hc:=Yo l[k].nodes (hol _ hmem) (hsl.2 _ hmem);cases hb1:patM l[k].nodes with
     | true=>
      rw [hb1] at hc
      (have hWf:=w7 @h4 @b4 @h29 @h30 @h31 @hx @he2;repeat' (first|refine zS ?_|refine zI ?_ ?_|refine zK hc ?_|exact zF0|refine zD fun hb=>?_|exact zC|refine zT ?_|fail))
      refine hK (l.length - (k+1)) _ (by omega) ⟨k+1,by omega,rfl,fun i hi q=>?_,?_⟩
      ·rcases Nat.lt_or_ge i k with w|w
       ·exact hall i hi w
       ·obtain rfl:i=k:=by omega
        exact hb1
      ·simp only [go_sem,simprocAttr,h4,b4,h29,h30,h31,Int.natCast_succ]
       done
     | false=>
      rw [hb1] at hc
      (have hWf:=w7 @h4 @b4 @h29 @h30 @h31 @hx @he2;repeat' (first|refine zS ?_|refine zI ?_ ?_|refine zK hc ?_|exact zF0|refine zD fun hb=>?_|exact zC|refine zT ?_|fail))
    ·obtain rfl:k=l.length:=by omega
     exfalso
     refine h ⟨hp,hA,hne,fun q hq=>?_⟩
     obtain ⟨i,hi,rfl⟩:=List.getElem_of_mem hq;exact hall i hi hi
 ·have e0:(z != 0)=true:=by simpa using hz0
  (have hWf:=w1 @e0;repeat' (first|refine zS ?_|refine zI ?_ ?_|exact zF0|refine zD fun hb=>?_|exact zC|refine zT ?_|fail))
theorem xb2(xs:List TyI)(hl:xs.length<=1000000):FT 38 [.ag [.sl 3 (xs.map TyI.enc)]] (fun r _=>r=.ag [.sl 3 ((yu xs).map TyI.enc)]):=FCon.ice ((xcw xs hl).mono fun r o e=>by
 subst e;simp only [frA,frzL,frz,TyI.frzS])
theorem FCon.tyOr{P:Program}{f:FuncId}{args:List D}{xs:List TyI}{c:D}(h:FCon P f args (fun r _=>r=.tup [.ag [.sl 3 (xs.map TyI.enc)],c]\/(xs=[]/\r=.tup [.ag [.nil],c]))):FCon P f args (fun r _=>r=.tup [.ag [.sl 3 (xs.map TyI.enc)],c]):=h.wk fun r o q=>by
 rcases q with rfl|⟨rfl,rfl⟩
 ·exact ⟨_,rfl,fun g w v hv=>hv⟩
 ·exact ⟨_,rfl,fun g w v hv=>YH (xs:=[.ag [.nil],c]) (xs':=[.ag [.sl 3 []],c]) rfl (fun m x x' hx hx' u hu=>by
   match m,hx,hx' with
   | 0,hx,hx'=>exact rn_nw (.inr (.inr ⟨(Option.some.inj hx).symm,3,(Option.some.inj hx').symm⟩)) hu
   | 1,hx,hx'=>rw [<- Option.some.inj hx'];rw [<- Option.some.inj hx] at hu;exact hu
   | m+2,hx,hx'=>simp at hx) hv⟩
def firS:Option (List TyI)->D
 | none=>.nil
 | some t=>.sl 3 (t.map TyI.enc)
theorem firS_none:firS none=.nil:=rfl
theorem uH(t:List TyI):firS (some t)=.sl 3 (t.map TyI.enc):=rfl
theorem xcP{ts:List MType}{q:PT}{r:List PT}{s s1:IS}{ty:List TyI}{e1:List Bnd}(e:patS ts 0 q [] s=(ty,e1,s1)):yA ts (q::r) none s=yA ts r (some ty) s1:=by rw [yA,e]
theorem xcQ{ts:List MType}{q:PT}{r:List PT}{s s1:IS}{t0 ty:List TyI}{e1:List Bnd}(e:patS ts 0 q [] s=(ty,e1,s1)):yA ts (q::r) (some t0) s=yA ts r (some t0) (yH s1 t0 ty 0):=by rw [yA,e]
theorem sameS_ok{s:IS}{x y:List TyI}(a:Int)(hs:OkS s)(hn:s.code=0->s.nx<=3000000)(hx:s.code=0->TyG s.nx x)(hy:s.code=0->TyG s.nx y):OkS (yH s x y a)/\((yH s x y a).code=0->s.code=0/\(yH s x y a).nx=s.nx):=by
 by_cases q:s.code=0
 ·have R:=WF (Rl.refl s) hs (hn q) (x:=x) (y:=y) (x':=x) (y':=y) (fun h=>⟨hx h,rfl⟩) (fun h=>⟨hy h,rfl⟩) a
  have P:=(uy a hs (hn q) hx hy).ok hs (by rw [wa];exact hn q)
  have key:(yH s x y a).code=0->xD s x y a=yH s x y a:=fun hz=>R.e (by rw [R.c];exact hz)
  exact ⟨fun hz=>by rw [<- key hz];exact P (by rw [key hz];exact hz),fun hz=>⟨q,by rw [<- key hz,wa]⟩⟩
 ·rw [vj q];exact ⟨hs,fun h=>absurd h q⟩
theorem patS_nil{ts:List MType}{N:List (List D)}{nodes:List DPNode}{t:PT}{m:Nat}{s:IS}(h:um ts N nodes [] 0 t m [] s):FT 36 [.opt (sR (ts.map MType.enc) N s),.ag [.sl 4 (nodes.map DPNode.enc)],.s (.int .i64 m),.nil,.s (.int .i64 0)] (fun r o=>r=.tup [.ag [.sl 3 ((patS ts 0 t [] s).1.map TyI.enc)],.sl 3 (envE [] (patS ts 0 t [] s).2.1)]/\o=[.opt (sR (ts.map MType.enc) N (patS ts 0 t [] s).2.2),.un,.un,.un,.un]):=by
 unfold um at h
 exact h.arg _ rfl fun j d' d h1 h2 g w u hu=>by
  match j,h1,h2 with
  | 0,h1,h2=>rw [<- Option.some.inj h2,Option.some.inj h1];exact hu
  | 1,h1,h2=>rw [<- Option.some.inj h2,Option.some.inj h1];exact hu
  | 2,h1,h2=>rw [<- Option.some.inj h2,Option.some.inj h1];exact hu
  | 3,h1,h2=>
   rw [<- Option.some.inj h2];rw [<- Option.some.inj h1] at hu
   exact RA_nilS hu
  | 4,h1,h2=>rw [<- Option.some.inj h2,Option.some.inj h1];exact hu
  | j+5,h1,h2=>simp at h1
theorem xaA(p:MProgram)(l:List MPat)(ho:p.ok)(hs:p.sm)(hol:∀ q∈l,q.ok)(hsl:smS MPat.sm l)(hsz:cnts (fun q:MPat=>q.nodes.length) l<=1048576)(h:Xx p l):FT 10 [.ag p.enc,.sl 1 (l.map MPat.enc)] (fun r _=>r=.tup [.ag [.sl 3 ((vg p l).1.map TyI.enc)],.s (.int .i64 (vg p l).2)]):=by
 have hl:=hsl.1;have hck:=ZE p ho hs;have T:=Yb h.prog;have hpos:=List.length_pos_iff.2 h.ne;have e1:((l.length:Int)==0)=false:=by rw [beq_eq_false_iff_ne];omega
 have hts:=uz h.pats;have hok:=vC h.pats;have G0:=patsG T (l.map xg) hok none is0;have R0:=G0.rl is0 (Rl.refl _) XC (by show 0+2*_<=_;omega) nofun
 have hRR:vg p l=zd (yA p.types (l.map xg) none is0).2 (yA p.types (l.map xg) none is0).1:=toldM_rl R0.1 R0.2;have hG1:=G0.ok XC (by show 0+2*_<=_;omega) nofun
 have hG2:=G0.ty XC (by show 0+2*_<=_;omega) (fun _ e=>h.ne (List.map_eq_nil_iff.1 e)) nofun
 have hG3:=G0.len nofun (fun q hq=>by obtain ⟨x,hx,rfl⟩:=List.mem_map.1 hq;exact (wT (h.pats x hx)).sz)
 have hG4:=G0.up;rw [hRR];rw [MProgram.enc_eq] at hck ⊢
 refine FCon.tyOr ?_;refine FI PM Tryz.func10 Tryz.ntmps10 [(21,6,[5],[(5,1),(5,2),(5,3),(5,4)],(lin [5] [0,1,2,3,4,5])),(22,5,[],[],(lin [] [0,1,2,3,4]))] rfl rfl ?_
 iterate 2 (refine xj ?_;simp only [go_sem,simprocAttr];(have hWf:=f0;repeat' (first|refine zY ?_|refine zI ?_ ?_|((with_reducible apply xc);refine xh (hck) ?_;rintro _ _ ⟨z,i,rfl,hz⟩)|refine zU hck ?_|exact zF1|refine zD fun hb=>?_|exact zC|refine zT ?_|fail)))
 obtain rfl:z=0:=hz.2 ⟨h.prog,h.chk⟩
 (have hWf:=w1 @e1;repeat' (first|refine zS ?_|refine zI ?_ ?_|exact zF0|refine zD fun hb=>?_|exact zC|refine zT ?_|fail))
 refine xd (fun n σ=>∃ k:Nat,k<=l.length/\n=l.length - k/\σ.t 1=.sl 1 (l.map MPat.enc)/\σ.t 2=.bx 2 0/\σ.b 2=some (.box [.sl 3 (p.types.map MType.enc),.sl 6 (p.nodes.map MNode.enc)])/\σ.t 4=.bx 4 0/\σ.b 4=some (.box [.nil])/\σ.t 29=.sl 1 (l.map MPat.enc)/\σ.t 30=.s (.int .i64 l.length)/\σ.t 31=.s (.int .i64 k)) l.length ⟨0,by omega,by omega,?_⟩ ?_
 ·simp only [go_sem,simprocAttr,Int.natCast_zero]
  done
 ·rintro n σ ⟨k,hk,rfl,h1,h2,b2,h4,b4,h29,h30,h31⟩ K' hK
  by_cases hlt:k<l.length
  ·have hmem:=List.getElem_mem hlt
   have hx:=xb MPat.enc l k hlt;have he2:=MPat.enc_eq l[k];have hc:=Yo l[k].nodes (hol _ hmem) (hsl.2 _ hmem);rw [h.pats _ hmem] at hc
   (have hWf:=w10 @h1 @h2 @b2 @h4 @b4 @h29 @h30 @h31 @hx @he2;repeat' (first|refine zS ?_|refine zI ?_ ?_|refine zK hc ?_|exact zF0|refine zD fun hb=>?_|exact zC|refine zT ?_|fail))
   refine hK (l.length - (k+1)) _ (by omega) ⟨k+1,by omega,rfl,?_⟩
   simp only [go_sem,simprocAttr,h1,h2,b2,h4,b4,h29,h30,h31,Int.natCast_succ]
   done
  ·obtain rfl:k=l.length:=by omega
   clear hK
   (have hWf:=w8 @h1 @h2 @b2 @h4 @b4 @h29 @h30 @h31;repeat' (first|refine zS ?_|refine zI ?_ ?_|exact zF0|refine zD fun hb=>?_|exact zC|refine zT ?_|fail))
   refine vQ (Yt 42 2 777 (row:=[.sl 3 (p.types.map MType.enc),.sl 6 (p.nodes.map MNode.enc),.nil,.s (.int .i64 0),.s (.int .i64 0),.s (.int .i64 0)]) 160 2 (by simp only [go_sem,simprocAttr]) rfl (by decide) rfl (y8 777 (.arr 160 2 []) (by simp only [go_sem,simprocAttr]) rfl (xj ?_)))
   simp only [go_sem,simprocAttr,h1];refine xd (fun n σ=>∃ (k:Nat) (f:Option (List TyI)) (s:IS),k<=l.length/\n=l.length - k/\(f=none ↔ k=0)/\OkS s/\(s.code=0->s.nx+2*sizeL ((l.drop k).map xg)<=3000000/\∀ t,f=some t->TyG s.nx t)/\(∀ t,f=some t->t.length<=1800)/\yA p.types ((l.drop k).map xg) f s=yA p.types (l.map xg) none is0/\σ.t 4=.bx 4 0/\σ.b 4=some (.box [.nil])/\σ.t 10=.bx 42 0/\σ.b 42=some (.box [.sl 3 (p.types.map MType.enc),.sl 6 (p.nodes.map MNode.enc),.sl 2 (s.l.map SubM.enc),.s (.int .i64 s.nx),.s (.int .i64 s.code),.s (.int .i64 s.at_)])/\σ.t 11=.bx 11 0/\σ.b 11=some (.box [firS f])/\σ.t 44=.sl 1 (l.map MPat.enc)/\σ.t 45=.s (.int .i64 l.length)/\σ.t 46=.s (.int .i64 k)) l.length ⟨0,none,is0,by omega,by omega,by simp,XC,fun _=>⟨by show 0+2*_<=_;rw [List.drop_zero];omega,nofun⟩,nofun,by rw [List.drop_zero],?_⟩ ?_
   ·simp only [go_sem,simprocAttr,h1,h2,b2,h4,b4,h29,h30,h31,Int.natCast_zero]
    exact ⟨rfl,rfl⟩
   ·rintro n σ ⟨k,f,s,hk,rfl,hfk,hs0,hcf,hfl,hrun,h4,b4,h10,b42,h11,b11,h44,h45,h46⟩ K' hK
    by_cases hlt:k<l.length
    ·have hmem:=List.getElem_mem hlt
     have hq:=h.pats _ hmem;have hx:=xb MPat.enc l k hlt;have he:=MPat.enc_eq l[k];have hT:=wT hq;have hdr:(l.drop k).map xg=xg l[k]::(l.drop (k+1)).map xg:=by rw [List.drop_eq_getElem_cons hlt,List.map_cons]
     rw [hdr,sizeL_cons] at hcf
     rw [hdr] at hrun
     have hq6:=(XG hq).2;have hsz6:=hT.sz;have cp:=patS_nil (c_patS (N:=p.nodes.map MNode.enc) T l[k].nodes (by omega) [] 0 (xg l[k]) 0 hT.at0 hT.ok [] s hs0 (fun hc=>by have:=(hcf hc).1;omega) (by simp;omega))
     obtain ⟨ok1,K1⟩:=V7 T 0 hT.ok [] hs0 (fun hc=>by have:=(hcf hc).1;omega)
     have kl:=Za T 0 (xg l[k]) hT.ok [] s;clear hq hT;generalize l[k]=q at *
     generalize hP:patS p.types 0 (xg q) [] s=P at *
     obtain ⟨ty,e1',s1⟩:=P;dsimp only at cp ok1 K1 kl
     cases f with
     | none=>
      obtain rfl:k=0:=hfk.1 rfl;rw [Nat.zero_add] at hcf hrun
      have hstep:=xcP (r:=(l.drop 1).map xg) hP;simp only [xM] at cp
      (have hWf:=w10 @h4 @b4 @h10 @b42 @h11 @b11 @h44 @h45 @h46 (ai @hx<|ai @he<|@firS_none);repeat' (first|refine zS ?_|refine zI ?_ ?_|refine zH cp ?_|exact zF0|refine zD fun hb=>?_|exact zC|refine zT ?_|fail))
      refine hK (l.length - 1) _ (by omega) ⟨1,some ty,s1,by omega,rfl,by simp,ok1,fun hc=>⟨by have:=(K1 hc).2.2.1;have:=(hcf (K1 hc).1).1;omega,fun t e=>by injection e with e;subst e;exact (K1 hc).2.2.2⟩,fun t e=>by injection e with e;subst e;omega,by rw [<- hrun,hstep],?_⟩
      simp only [go_sem,simprocAttr,h4,b4,h10,b42,h11,b11,h44,h45,h46,uH]
      all_goals trace_state
     | some t0=>
      have hk0:k≠0:=fun e=>by have:=hfk.2 e;cases this
      have ek:((k:Int)==0)=false:=by rw [beq_eq_false_iff_ne];omega
      have hstep:=xcQ (r:=(l.drop (k+1)).map xg) (t0:=t0) hP;have t0l:=hfl t0 rfl;have t0G:s1.code=0->TyG s1.nx t0:=fun hc=>((hcf (K1 hc).1).2 t0 rfl).mono (K1 hc).2.1
      have nx1:s1.code=0->s1.nx+2*sizeL ((l.drop (k+1)).map xg)<=3000000:=fun hc=>by have:=(K1 hc).2.2.1;have:=(hcf (K1 hc).1).1;omega
      have cd:=WV (T:=p.types.map MType.enc) (N:=p.nodes.map MNode.enc) s1 t0 ty 0 ok1 (fun hc=>by have:=nx1 hc;omega) t0G (fun hc=>(K1 hc).2.2.2) (by omega) (by omega)
      obtain ⟨ok2,z2⟩:=sameS_ok 0 ok1 (fun hc=>by have:=nx1 hc;omega) t0G (fun hc=>(K1 hc).2.2.2)
      generalize yH s1 t0 ty 0=s2 at *
      simp only [xM] at cp cd
      (have hWf:=w10 @h4 @b4 @h10 @b42 @h11 @b11 @h44 @h45 @h46 (ai @hx<|ai @he<|ai @ek<|@uH);repeat' (first|refine zS ?_|refine zI ?_ ?_|refine zH cp ?_|refine zH cd ?_|exact zF0|refine zD fun hb=>?_|exact zC|refine zT ?_|fail))
      refine hK (l.length - (k+1)) _ (by omega) ⟨k+1,some t0,s2,by omega,rfl,by simp,ok2,fun hc=>⟨by rw [(z2 hc).2];exact nx1 (z2 hc).1,fun t e=>by injection e with e;subst e;rw [(z2 hc).2];exact t0G (z2 hc).1⟩,fun t e=>by injection e with e;subst e;exact t0l,by rw [<- hrun,hstep],?_⟩
      simp only [go_sem,simprocAttr,h4,b4,h10,b42,h11,b11,h44,h45,h46,uH,Int.natCast_succ]
      all_goals trace_state
    ·obtain rfl:k=l.length:=by omega
     rw [List.drop_length,List.map_nil] at hrun
     cases f with
     | none=>have:=hfk.1 rfl;omega
     | some t0=>
      have t0l:=hfl t0 rfl;have hrun:yA p.types (l.map xg) none is0=(t0,s):=hrun.symm;rw [hrun];dsimp only
      by_cases hz:s.code=0
      ·have e0:(s.code != 0)=false:=by simp [hz]
       have G:=hs0 hz;have t0G:=(hcf hz).2 t0 rfl;have bx:=z9 (l:=s.l) (B:=200) (by omega) G.g.len t0
       have px:=wn t0 s.l (by omega) (by have:=G.len;have:=(hcf hz).1;omega) G.g.dif (by omega)
       have cc:=xb2 (putX s.l t0) (by omega)
       have hcl:=canonM_len' (putX s.l t0);have gx:=uY (putX s.l t0)
       by_cases hb:200<(putX s.l t0).length
       ·have hR:zd s t0=([],26):=by unfold zd;rw [if_neg (by omega),if_pos hb]
        have f1:decide (((putX s.l t0).length:Int)>200)=true:=by rw [gx];exact decide_eq_true hb
        rw [hR]
        (have hWf:=w10 @h4 @b4 @h10 @b42 @h11 @b11 @h44 @h45 @h46 (ai @e0<|ai @f1<|ai @hcl<|@uH);repeat' (first|refine zS ?_|refine zI ?_ ?_|refine zK px ?_|refine zK cc ?_|exact zF0|refine zD fun hb=>?_|exact zC|refine zT ?_|fail))
        all_goals first|exact .inr ⟨rfl,rfl⟩|exact .inl rfl|trace_state
       ·have hR:zd s t0=(yu (putX s.l t0),0):=by unfold zd;rw [if_neg (by omega),if_neg hb]
        have f1:decide (((putX s.l t0).length:Int)>200)=false:=by rw [gx];exact decide_eq_false hb
        rw [hR]
        (have hWf:=w10 @h4 @b4 @h10 @b42 @h11 @b11 @h44 @h45 @h46 (ai @e0<|ai @f1<|ai @hcl<|@uH);repeat' (first|refine zS ?_|refine zI ?_ ?_|refine zK px ?_|refine zK cc ?_|exact zF0|refine zD fun hb=>?_|exact zC|refine zT ?_|fail))
        all_goals first|exact .inr ⟨rfl,rfl⟩|exact .inl rfl|trace_state
      ·have e0:(s.code != 0)=true:=by simpa using hz
       have hR:zd s t0=([],s.code):=by unfold zd;rw [if_pos hz]
       rw [hR]
       (have hWf:=w10 @h4 @b4 @h10 @b42 @h11 @b11 @h44 @h45 @h46 (ai @e0<|@uH);repeat' (first|refine zS ?_|refine zI ?_ ?_|exact zF0|refine zD fun hb=>?_|exact zC|refine zT ?_|fail))
       all_goals first|exact .inr ⟨rfl,rfl⟩|exact .inl rfl|trace_state
open Classical in
noncomputable def yp(p:MProgram)(l:List MPat):List TyI×Int:=if Xx p l then vg p l else ([],1)
theorem YN(p:MProgram)(l:List MPat)(ho:p.ok)(hs:p.sm)(hol:∀ q∈l,q.ok)(hsl:smS MPat.sm l)(hsz:cnts (fun q:MPat=>q.nodes.length) l<=1048576):FT 13 [.ag p.enc,.sl 1 (l.map MPat.enc)] (fun r _=>r=.tup [.ag [.osl 143 3 ((yp p l).1.map TyI.own)],.s (.int .i64 (yp p l).2)]):=by
 unfold yp;split
 ·rename_i h;exact xax p l ho hs hol hsl hsz (ZB p ho hs) h
 ·rename_i h;exact VM p l ho hs hol hsl (ZB p ho hs) h
theorem YR(p:MProgram)(l:List MPat)(ho:p.ok)(hs:p.sm)(hol:∀ q∈l,q.ok)(hsl:smS MPat.sm l)(hsz:cnts (fun q:MPat=>q.nodes.length) l<=1048576):FT 10 [.ag p.enc,.sl 1 (l.map MPat.enc)] (fun r _=>r=.tup [.ag [.sl 3 ((yp p l).1.map TyI.enc)],.s (.int .i64 (yp p l).2)]):=by
 unfold yp;split
 ·rename_i h;exact xaA p l ho hs hol hsl hsz h
 ·rename_i h;exact VO p l ho hs hol hsl h
theorem Vj(l:List MPat):cnts (fun q:MPat=>q.nodes.length) l<=cnts MPat.tot l:=by
 induction l with
 | nil=>exact Nat.le_refl _
 | cons q l ih=>show q.nodes.length+cnts _ l<=q.tot+cnts _ l;rw [MPat.tot_eq];omega
theorem cnts_pcnt(l:List MPat):cnts MPat.cnt l<=6*l.length+6*cnts MPat.tot l:=by
 induction l with
 | nil=>exact Nat.le_refl _
 | cons q l ih=>
  have:=MPat.cnt_le q;show q.cnt+cnts _ l<=6*(l.length+1)+6*(q.tot+cnts _ l);omega
def rO(t:PT):List D:=[.osl 96 1 [pxS t]]
noncomputable def xC(l:List MPat):List (List PT):=(l.map xg).map fun t=>[t]
theorem c_rowsOfO(l:List MPat)(hl:l.length<=3000000)(hp:∀ q∈l,patM q.nodes=true):FT 63 [.sl 1 (l.map MPat.enc)] (fun r _=>r=.osl 121 1 ((l.map xg).map rO)):=by
 refine FI PM Tryz.func63 Tryz.ntmps63 [] rfl rfl ?_
 (have hWf:=f0;repeat' (first|refine zS ?_|refine zI ?_ ?_|exact zF0|refine zD fun hb=>?_|exact zC|refine zT ?_|fail))
 refine xd (fun m σ=>∃ k:Nat,k<=l.length/\m=l.length - k/\σ.t 7=.sl 1 (l.map MPat.enc)/\σ.t 8=.s (.int .i64 l.length)/\σ.t 9=.s (.int .i64 k)/\σ.t 3=.bs 6 1 k/\σ.b 6=some (.arr 121 1 (((l.take k).map xg).map rO))) l.length ⟨0,by omega,by omega,?_⟩ ?_
 ·simp only [go_sem,simprocAttr,Int.natCast_zero,List.take_zero,List.map_nil]
  all_goals trace_state
 ·rintro m σ ⟨k,hk,rfl,h7,h8,h9,h3,b6⟩ K' hK
  by_cases hlt:k<l.length
  ·have hmem:=List.getElem_mem hlt
   have hq:=hp _ hmem;have hx:=xb MPat.enc l k hlt;have he:=MPat.enc_eq l[k];have hT:=wT hq;have hqs:=(XG hq).2;have cg:=Qu l[k].nodes (by omega) (xg l[k]) 0 hT.at0
   have hlen:(((l.take k).map xg).map rO).length=k:=by rw [List.length_map,List.length_map,List.length_take];omega
   have happ:((l.take (k+1)).map xg).map rO=((l.take k).map xg).map rO++[rO (xg l[k])]:=by rw [List.take_succ_eq_append_getElem hlt,List.map_append,List.map_append];rfl
   clear hq hT;generalize l[k]=q at *
   obtain ⟨xa,xl,hxt⟩:∃ xa xl,xg q=.mk xa xl:=⟨_,_,Arb.eta _⟩;rw [hxt,xX] at cg
   rw [hxt,rO,yK] at happ
   (have hWf:=w8 @h7 @h8 @h9 @h3 @b6 @hx @he @hlen;repeat' (first|refine zS ?_|refine zI ?_ ?_|refine zX (FCon.noout cg) ?_|((with_reducible apply xc);refine zG (cg) ?_)|exact zF0|refine zD fun hb=>?_|exact zC|refine zT ?_|fail))
   refine hK (l.length - (k+1)) _ (by omega) ⟨k+1,by omega,rfl,?_⟩
   simp only [go_sem,simprocAttr,h7,h8,h9,h3,b6,hlen,happ,Int.natCast_succ]
   all_goals trace_state
  ·obtain rfl:k=l.length:=by omega
   rw [List.take_length] at b6
   have hlen:((l.map xg).map rO).length=l.length:=by rw [List.length_map,List.length_map]
   have htk:((l.map xg).map rO).take l.length=(l.map xg).map rO:=by rw [<- hlen,List.take_length]
   (have hWf:=w7 @h7 @h8 @h9 @h3 @b6 @hlen @htk;repeat' (first|refine zS ?_|refine zI ?_ ?_|exact zF0|refine zD fun hb=>?_|exact zC|refine zT ?_|fail))
   all_goals trace_state
theorem xa0(l:List MPat)(hl:l.length<=3000000)(hp:∀ q∈l,patM q.nodes=true):FT 63 [.sl 1 (l.map MPat.enc)] (fun r _=>r=.sl 1 (rwsE (xC l))):=
 FCon.ice ((c_rowsOfO l hl hp).mono fun r _ e=>by
  subst e;show D.sl 1 (xu _)=_;rw [xI,xC,rwsE,List.map_map,List.map_map,List.map_map,List.map_map]
  congr 1
  refine List.map_congr_left fun q _=>?_
  obtain ⟨xa,xl,hxt⟩:∃ xa xl,xg q=.mk xa xl:=⟨_,_,Arb.eta _⟩;show frzL (rO (xg q))=rowE [xg q];rw [hxt,rO,yK,rowE,List.map_cons,yK];rfl)
theorem k2_ok{t:PT}(h:okP t):k2 t:=by
 induction t using Arb.ind with
 | h a l ih=>
  refine All.mk ?_ fun x hx=>ih x hx (h.kid x hx)
  cases h.root<;>simp_all
theorem hard_size(t:PT):hard t<=t.size:=by
 induction t using Arb.ind with
 | h a l ih=>
  have:∀ m:List PT,(∀ x∈m,hard x<=x.size)->xw m<=sizeL m:=fun m=>by
   induction m with
   | nil=>intro _;rw [xw];exact Nat.zero_le _
   | cons x m ihm=>
    intro hm;have h1:=hm x (.head _);have h2:=ihm fun y hy=>hm y (.tail _ hy)
    rw [xw,sizeL_cons];omega
  have:=this l ih;rw [hard,size_mk];split<;>omega
theorem uh:∀ l:List MPat,x5 (xC l)<=sizeL (l.map xg)
 | []=>Nat.zero_le _
 | q::l=>by
  have h1:=uh l;have h2:=hard_size (xg q);rw [show xC (q::l)=[xg q]::xC l from rfl,zL,List.map_cons,sizeL_cons,xw,xw];omega
noncomputable def y9(l:List MPat):Nat:=2*x5 (xC l)+2
theorem Rk_rows{l:List MPat}(hl:l.length<=3000000)(hp:∀ q∈l,patM q.nodes=true):Rk (xC l) [yh]:=by
 refine ⟨fun r hr=>?_,fun r hr q hq=>?_,fun q hq=>?_,?_⟩
 ·obtain ⟨t,-,rfl⟩:=List.mem_map.1 hr;rfl
 ·obtain ⟨t,ht,rfl⟩:=List.mem_map.1 hr
  rw [List.mem_singleton] at hq
  rw [hq];exact k2_ok (vC hp t ht)
 ·rw [List.mem_singleton] at hq;rw [hq];exact VW
 ·unfold xC;rw [List.length_map,List.length_map];exact hl
noncomputable def ZH(p:MProgram)(l:List MPat):Bool:=useM p.types (y9 l) (xC l) [yh]
noncomputable def YS(p:MProgram)(l:List MPat):Bool×Bool:=if (yp p l).2=0 then (!ZH p l,true) else (false,false)
theorem VL(p:MProgram)(l:List MPat)(ho:p.ok)(hs:p.sm)(hol:∀ q∈l,q.ok)(hsl:smS MPat.sm l)(hsz:cnts (fun q:MPat=>q.nodes.length) l<=1048576):FT 22 [.ag p.enc,.sl 1 (l.map MPat.enc)] (fun r _=>r=.tup [.s (.bool (YS p l).1),.s (.bool (YS p l).2)]):=by
 have hl:=hsl.1;have cp:=YN p l ho hs hol hsl hsz;unfold YS
 by_cases hz:(yp p l).2=0
 ·have h:Xx p l:=by
   unfold yp at hz
   split at hz
   ·assumption
   ·cases hz
  have hts:=uz h.pats;have hrw:=uh l;have hw:=Yw 1 (by omega)
  rw [show (xi 1).map pxS=[[pxE yh]] from rfl] at hw
  have hro:=xa0 l (by omega) h.pats
  have hu:=Xz p.types hs.1.1 (fun t ht=>(hs.1.2 t ht).2.1) (y9 l) (xC l) [yh] (by unfold y9;omega) (by unfold y9;rw [xw,xw,show hard yh=0 from by rw [yh,hard,xw];rfl];simp) (Rk_rows (by omega) h.pats)
  rw [show useM p.types (y9 l) (xC l) [yh]=ZH p l from rfl,show [yh].map pxS=[[pxE yh]] from rfl] at hu
  rw [if_pos hz];rw [hz] at cp
  generalize ZH p l=B at *
  refine FI PM Tryz.func22 Tryz.ntmps22 [] rfl rfl ?_
  (have hWf:=w1 @MProgram.enc_eq;repeat' (first|refine zS ?_|refine zI ?_ ?_|refine zX (FCon.noout cp) ?_|((with_reducible apply xc);refine zG (cp) ?_)|refine zX (FCon.noout hro) ?_|((with_reducible apply xc);refine zG (hro) ?_)|refine zX (FCon.noout hw) ?_|((with_reducible apply xc);refine zG (hw) ?_)|refine zK hu ?_|exact zF0|refine zD fun hb=>?_|exact zC|refine zT ?_|fail))
  all_goals trace_state
 ·rw [if_neg hz]
  have hz':((yp p l).2 != 0)=true:=by simpa using hz
  refine FI PM Tryz.func22 Tryz.ntmps22 [] rfl rfl ?_
  (have hWf:=w2 @MProgram.enc_eq @hz';repeat' (first|refine zS ?_|refine zI ?_ ?_|refine zX (FCon.noout cp) ?_|((with_reducible apply xc);refine zG (cp) ?_)|exact zF0|refine zD fun hb=>?_|exact zC|refine zT ?_|fail))
  all_goals trace_state
mutual
def qE:PT->List D
 | .mk a l=>if a.kind=1\/a.kind=2 then [.s (.int .i64 1),.s (.int .i64 0),.s (.string ⟨#[]⟩),.sl 4 []] else [.s (.int .i64 a.kind),.s (.int .i64 a.n),.s (.string a.s),.sl 4 (qEL l)]
def qEL:List PT->List (List D)
 | []=>[]
 | t::l=>qE t::qEL l
end
theorem qEL_map(l:List PT):qEL l=l.map qE:=by
 induction l with
 | nil=>rw [qEL];rfl
 | cons t l ih=>rw [qEL,ih];rfl
theorem qE_w{a:PI}{l:List PT}(h:a.kind=1\/a.kind=2):qE (.mk a l)=[.s (.int .i64 1),.s (.int .i64 0),.s (.string ⟨#[]⟩),.sl 4 []]:=by rw [qE,if_pos h]
theorem qE_n{a:PI}{l:List PT}(h:¬ (a.kind=1\/a.kind=2)):qE (.mk a l)=[.s (.int .i64 a.kind),.s (.int .i64 a.n),.s (.string a.s),.sl 4 (l.map qE)]:=by rw [qE,if_neg h,qEL_map]
def qa(t:PT):PI:=if isW t=true then ⟨1,0,⟨#[]⟩⟩ else t.a
def qk(t:PT):List PT:=if isW t=true then [] else t.kids
theorem wv(t:PT):qE t=[.s (.int .i64 (qa t).kind),.s (.int .i64 (qa t).n),.s (.string (qa t).s),.sl 4 ((qk t).map qE)]:=by
 obtain ⟨a,l,rfl⟩:∃ a l,t=.mk a l:=⟨_,_,Arb.eta _⟩;have e1:isW (.mk a l)=(decide (a.kind=1)||decide (a.kind=2)):=rfl
 by_cases h:a.kind=1\/a.kind=2
 ·have hw:isW (.mk a l)=true:=by rw [e1];simpa using h
  rw [qE_w h,qa,qk,if_pos hw,if_pos hw];rfl
 ·have hw:¬ isW (.mk a l)=true:=by rw [e1];simpa using h
  rw [qE_n h,qa,qk,if_neg hw,if_neg hw];rfl
theorem QB(t u:PT):FT 157 [.ag (qE t),.ag (qE u)] (fun r _=>r=.s (.bool (((qa t).kind==(qa u).kind)&&(((qa t).n==(qa u).n)&&((qa t).s.toList==(qa u).s.toList))))):=by
 rw [wv t,wv u];generalize qa t=a;generalize qa u=b;refine FI PM Tryz.func157 Tryz.ntmps157 [] rfl rfl ?_;cases q1:(a.kind==b.kind) with
 | false=>(have hWf:=w1 @q1;repeat' (first|refine zS ?_|refine zI ?_ ?_|exact zF0|refine zD fun hb=>?_|exact zC|refine zT ?_|fail))
 | true=>
  cases q2:(a.n==b.n) with
  | false=>(have hWf:=w2 @q1 @q2;repeat' (first|refine zS ?_|refine zI ?_ ?_|exact zF0|refine zD fun hb=>?_|exact zC|refine zT ?_|fail))
  | true=>(have hWf:=w2 @q1 @q2;repeat' (first|refine zS ?_|refine zI ?_ ?_|exact zF0|refine zD fun hb=>?_|exact zC|refine zT ?_|fail))
theorem frz_qE(t:PT):frzL (qE t)=qE t:=by rw [wv];rfl
theorem wV(l:List PT):xu (l.map qE)=l.map qE:=by
 rw [xI,List.map_map];exact List.map_congr_left fun x _=>frz_qE x
theorem xc5{a:PI}{l:List PT}(h:okP (.mk a l))(k:a.kind=1):l=[]/\a.n=0/\a.s=⟨#[]⟩:=by
 have e0:(⟨#[]⟩:ByteArray).toList=[]:=by rw [ByteArray.toList_eq]
 cases h.root<;>first|(exfalso;omega)|skip
 rename_i h1 h2 h3 h4;exact ⟨h2,h3,vG (h4.trans e0.symm)⟩
theorem c_l07Of(nodes:List DPNode)(hl:nodes.length<=1000000):∀ (t:PT) (m:Nat),At PI.node nodes m t->okP t->FT 60 [.ag [.sl 4 (nodes.map DPNode.enc)],.s (.int .i64 m)] (fun r _=>r=.ag (qE t)):=fun t=>by
 induction t using Arb.ind with
 | h a l ih=>
  intro m hA ho;have hm:=hA.lt;have hx:=XI hA;have he:=vX a (idxs (m+1) l);have hil:=idxs_len (m+1) l;have hll:l.length<=1000000:=by
   have h1:=hA.bd;have h2:=sizeL_len l;rw [size_mk] at h1
   omega
  by_cases h2:a.kind=2
  ·have h:FT 60 [.ag [.sl 4 (nodes.map DPNode.enc)],.s (.int .i64 m)] (fun r _=>r=.ag [.s (.int .i64 1),.s (.int .i64 0),.s (.string ⟨#[]⟩),.nil]):=by
    have q2:(a.kind==2)=true:=by simpa using h2
    refine FI PM Tryz.func60 Tryz.ntmps60 [(8,6,[],[],(lin [] [0,1,2,3,4,5]))] rfl rfl ?_
    (have hWf:=w4 @hx @he @hil @q2;repeat' (first|refine zS ?_|refine zI ?_ ?_|exact zF0|refine zD fun hb=>?_|exact zC|refine zT ?_|fail))
   refine h.wk fun r o e=>⟨_,rfl,?_⟩
   subst e;rw [qE_w (.inr h2)];exact RA'.ag (Rr.cons (RW.refl _) (Rr.cons (RW.refl _) (Rr.cons (RW.refl _) (Rr.cons (RW.nilS 4) (Rr.refl [])))))
  ·have h:FT 60 [.ag [.sl 4 (nodes.map DPNode.enc)],.s (.int .i64 m)] (fun r _=>r=.ag [.s (.int .i64 a.kind),.s (.int .i64 a.n),.s (.string a.s),.osl 112 4 (l.map qE)]):=by
    have q2:(a.kind==2)=false:=by simpa using h2
    refine FI PM Tryz.func60 Tryz.ntmps60 [(8,6,[],[],(lin [] [0,1,2,3,4,5]))] rfl rfl ?_
    iterate 3 (refine xj ?_;simp only [go_sem,simprocAttr,hx,he,hil,q2];(have hWf:=w4 @hx @he @hil @q2;repeat' (first|refine zY ?_|refine zI ?_ ?_|exact zF1|refine zD fun hb=>?_|exact zC|refine zT ?_|fail)))
    refine Yt 6 3 777 (row:=[.s (.int .i64 a.kind),.s (.int .i64 a.n),.s (.string a.s),.nil]) 112 4 (by simp only [go_sem,simprocAttr,hx,he,hil,q2]) rfl (by decide) rfl ?_
    (have hWf:=w4 @hx @he @hil @q2;repeat' (first|refine zS ?_|refine zI ?_ ?_|exact zF0|refine zD fun hb=>?_|exact zC|refine zT ?_|fail))
    refine xd (fun n σ=>∃ k:Nat,k<=l.length/\n=l.length - k/\σ.t 2=.bx 2 0/\σ.b 2=some (.box [.sl 4 (nodes.map DPNode.enc)])/\σ.t 4=.bx 4 0/\σ.b 4=some (.box [.s (.int .i64 0),.s (.int .i64 0),.s (.string ⟨#[]⟩),.nil])/\σ.t 6=.bx 6 0/\σ.t 26=.sl 1 ((idxs (m+1) l).map iE)/\σ.t 27=.s (.int .i64 l.length)/\σ.t 28=.s (.int .i64 k) /\
     σ.b 6=some (.box [.s (.int .i64 a.kind),.s (.int .i64 a.n),.s (.string a.s),.bs 777 4 k])/\σ.b 777=some (.arr 112 4 ((l.take k).map qE))) l.length ⟨0,by omega,by omega,?_⟩ ?_
    ·simp only [go_sem,simprocAttr,Int.natCast_zero,List.take_zero,hx,he,hil]
    ·rintro n σ ⟨k,hk,rfl,h2',b2,h4,b4,h6,h27,h28,h29,b25,b7⟩ K' hK
     by_cases hlt:k<l.length
     ·have hlt2:k<(idxs (m+1) l).length:=by rw [hil];exact hlt
      have hx2:=xb iE (idxs (m+1) l) k hlt2;have he2:iE (idxs (m+1) l)[k]=[.s (.int .i64 ((m+1+sizeL (l.take k):Nat):Int))]:=by rw [idxs_at (m+1) l k hlt];rfl
      have hg:=ih l[k] (List.getElem_mem hlt) _ (hA.kids.at k hlt) (ho.kid _ (List.getElem_mem hlt))
      have htl:((l.take k).map qE).length=k:=by rw [List.length_map,List.length_take];omega
      have hts:=List.take_succ_eq_append_getElem hlt;have hex:=wv l[k];rw [hex] at hg
      (have hWf:=w10 @h2' @b2 @h4 @b4 @h6 @h27 @h28 @h29 @b25 (ai @b7<|ai @hx2<|ai @he2<|ai @hil<|@htl);repeat' (first|refine zS ?_|refine zI ?_ ?_|refine zK hg ?_|exact zF0|refine zD fun hb=>?_|exact zC|refine zT ?_|fail))
      refine hK (l.length - (k+1)) _ (by omega) ⟨k+1,by omega,rfl,?_⟩
      simp only [go_sem,simprocAttr,h2',b2,h4,b4,h6,h27,h28,h29,b25,b7,Int.natCast_succ,hts,List.map_append,hex]
      all_goals trace_state
     ·obtain rfl:k=l.length:=by omega
      rw [List.take_length] at b7
      (have hWf:=w10 @h2' @b2 @h4 @b4 @h6 @h27 @h28 @h29 @b25 @b7;repeat' (first|refine zS ?_|refine zI ?_ ?_|exact zF0|refine zD fun hb=>?_|exact zC|refine zT ?_|fail))
      all_goals trace_state
   refine FCon.ice (h.mono fun r _ e=>?_)
   subst e;show D.ag [_,_,_,D.sl 4 (xu (l.map qE))]=_;rw [wV]
   by_cases h1:a.kind=1
   ·obtain ⟨rfl,e1,e2⟩:=xc5 ho h1
    rw [qE_w (.inl h1),h1,e1,e2];rfl
   ·rw [qE_n (by omega)];rfl
end
section
attribute [local go_sem] List.length_map
open Go.RowKit Arb
def rqE(r:List PT):List D:=[.sl 4 (r.map qE)]
def rqsE(rows:List (List PT)):List (List D):=rows.map rqE
theorem vy(rows:List (List PT)):(rqsE rows).length=rows.length:=List.length_map ..
theorem UW(rows:List (List PT))(k:Nat)(h:k<rows.length):(rqsE rows).getD k []=[.sl 4 (rows[k].map qE)]:=xb rqE rows k h
def wq:List D:=[.s (.int .i64 1),.s (.int .i64 0),.s (.string ⟨#[]⟩),.nil]
def yk(h:PT):List PT->Option (List (List D))
 | []=>none
 | q::r=>if isW q=true then some (List.replicate h.kids.length wq++r.map qE) else if yg q h=true then some (q.kids.map qE++r.map qE) else none
def rowO(d:List (List D)):List D:=[.osl 112 4 d]
theorem openD_w{h q:PT}{r:List PT}(e:isW q=true):yk h (q::r)=some (List.replicate h.kids.length wq++r.map qE):=by show (if isW q=true then _ else _)=_;rw [e];rfl
theorem openD_e{h q:PT}{r:List PT}(e:isW q=false)(k:yg q h=true):yk h (q::r)=some (q.kids.map qE++r.map qE):=by show (if isW q=true then _ else if yg q h=true then _ else _)=_;rw [e,k];rfl
theorem openD_n{h q:PT}{r:List PT}(e:isW q=false)(k:yg q h=false):yk h (q::r)=none:=by show (if isW q=true then _ else if yg q h=true then _ else _)=_;rw [e,k];rfl
theorem xcA(rows:List (List PT))(h:PT)(hh:isW h=false)(hl:rows.length<=3000000)(hr:∀ r∈rows,r≠[])(hw:∀ r∈rows,r.length<=3000000)(hkk:∀ q∈h::rows.flatten,q.kids.length<=3000000):FT 112 [.sl 1 (rqsE rows),.ag (qE h)] (fun r _=>r=.osl 110 1 ((rows.filterMap (yk h)).map rowO)):=by
 have hll:=vy rows;have hmk:h.kids.length<=3000000:=hkk _ (.head _);have hqe:=wv h;have hqk:qk h=h.kids:=by unfold qk;rw [hh];rfl
 rw [hqk] at hqe
 rw [hqe];refine FI PM Tryz.func112 Tryz.ntmps112 [(12,4,[],[],(lin [] [0,1,2,3])),(13,11,[1,6,9,10],[(1,0),(1,2),(1,3),(1,4),(1,5),(1,7),(1,8),(6,0),(6,7),(6,8),(9,0),(10,0)],(lin [1,6,9,10] [0,2,3,4,5,7,8,1,6,9,10]))] rfl rfl ?_
 (have hWf:=w1 @hll;repeat' (first|refine zS ?_|refine zI ?_ ?_|exact zF0|refine zD fun hb=>?_|exact zC|refine zT ?_|fail))
 refine xd (fun m' σ=>∃ k:Nat,k<=rows.length/\m'=rows.length - k/\σ.t 3=.bx 3 0/\σ.b 3=some (.box [.s (.int .i64 (qa h).kind),.s (.int .i64 (qa h).n),.s (.string (qa h).s),.sl 4 (h.kids.map qE)])/\σ.t 10=.sl 1 (rqsE rows)/\σ.t 11=.s (.int .i64 rows.length)/\σ.t 12=.s (.int .i64 k)/\σ.t 5=.bs 9 1 ((rows.take k).filterMap (yk h)).length/\σ.b 9=some (.arr 110 1 (((rows.take k).filterMap (yk h)).map rowO))) rows.length ⟨0,by omega,by omega,?_⟩ ?_
 ·simp only [go_sem,simprocAttr,hll,Int.natCast_zero,List.take_zero,List.filterMap_nil,List.map_nil,List.length_nil]
  all_goals trace_state
 ·rintro m' σ ⟨k,hk,rfl,h3,b3,h10,h11,h12,h5,b9⟩ K' hK
  by_cases hlt:k<rows.length
  ·have hx:=UW rows k hlt
   have e3:=WH (yk h) rows k hlt;have e4:=fm_le (yk h) rows k;have e5:(((rows.take k).filterMap (yk h)).map rowO).length=((rows.take k).filterMap (yk h)).length:=List.length_map ..;have hrw:=hw _ (List.getElem_mem hlt);obtain ⟨q,r,hq⟩:∃ q r,rows[k]=q::r:=by
    cases e:rows[k] with
    | nil=>exact absurd e (hr _ (List.getElem_mem hlt))
    | cons q r=>exact ⟨q,r,rfl⟩
   rw [hq] at hx e3 hrw
   rw [List.length_cons] at hrw
   have hqq:=wv q;rw [List.map_cons,hqq] at hx
   have app:∀ x:List (List D),(((rows.take k).filterMap (yk h))++[x]).map rowO=((rows.take k).filterMap (yk h)).map rowO++[[.osl 112 4 x]]:=fun x=>by rw [List.map_append];rfl
   have len:∀ x:List (List D),(((rows.take k).filterMap (yk h))++[x]).length=((rows.take k).filterMap (yk h)).length+1:=fun x=>by rw [List.length_append];rfl
   cases ew:isW q with
   | true=>
    have hka:(qa q).kind=1:=by unfold qa;rw [ew];rfl
    rw [hka] at hx
    rw [openD_w ew,Option.toList_some] at e3
    (have hWf:=w10 @h3 @b3 @h10 @h11 @h12 @h5 @b9 @hx @hll @e5;repeat' (first|refine zS ?_|refine zI ?_ ?_|exact zF0|refine zD fun hb=>?_|exact zC|refine zT ?_|fail))
    refine xd (fun m' σ=>∃ j:Nat,j<=h.kids.length/\m'=h.kids.length - j/\σ.t 3=.bx 3 0/\σ.b 3=some (.box [.s (.int .i64 (qa h).kind),.s (.int .i64 (qa h).n),.s (.string (qa h).s),.sl 4 (h.kids.map qE)])/\σ.t 10=.sl 1 (rqsE rows)/\σ.t 11=.s (.int .i64 rows.length)/\σ.t 12=.s (.int .i64 k)/\σ.t 5=.bs 9 1 ((rows.take k).filterMap (yk h)).length/\σ.b 9=some (.arr 110 1 (((rows.take k).filterMap (yk h)).map rowO)) /\
     σ.t 7=.sl 4 ([.s (.int .i64 1),.s (.int .i64 (qa q).n),.s (.string (qa q).s),.sl 4 ((qk q).map qE)]::r.map qE)/\σ.t 24=.s (.int .i64 h.kids.length)/\σ.t 25=.s (.int .i64 j)/\σ.t 8=.bs 21 4 j/\σ.b 21=some (.arr 112 4 (List.replicate j wq))) h.kids.length ⟨0,by omega,by omega,?_⟩ ?_
    ·simp only [go_sem,simprocAttr,h3,b3,h10,h11,h12,h5,b9,hx,hll,e5,Int.natCast_zero,List.replicate_zero]
     all_goals trace_state
    ·rintro m' σ ⟨j,hj,rfl,g3,c3,g10,g11,g12,g5,c9,g7,g24,g25,g8,c21⟩ K'' hK'
     by_cases hjl:j<h.kids.length
     ·have hlr:(List.replicate j wq).length=j:=List.length_replicate
      (have hWf:=w10 @g3 @c3 @g10 @g11 @g12 @g5 @c9 @g7 @g24 (ai @g25<|ai @g8<|ai @c21<|ai @hlr<|@e5);repeat' (first|refine zS ?_|refine zI ?_ ?_|exact zF0|refine zD fun hb=>?_|exact zC|refine zT ?_|fail))
      refine hK' (h.kids.length - (j+1)) _ (by omega) ⟨j+1,by omega,rfl,?_⟩
      simp only [go_sem,simprocAttr,g3,c3,g10,g11,g12,g5,c9,g7,g24,g25,g8,c21,hlr,e5,Int.natCast_succ,List.replicate_succ',wq]
      all_goals trace_state
     ·obtain rfl:j=h.kids.length:=by omega
      have hlr:(List.replicate h.kids.length wq).length=h.kids.length:=List.length_replicate
      (have hWf:=w10 @g3 @c3 @g10 @g11 @g12 @g5 @c9 @g7 @g24 (ai @g25<|ai @g8<|ai @c21<|ai @hlr<|@e5);repeat' (first|refine zS ?_|refine zI ?_ ?_|exact zF0|refine zD fun hb=>?_|exact zC|refine zT ?_|fail))
      refine hK (rows.length - (k+1)) _ (by omega) ⟨k+1,by omega,rfl,?_⟩
      have ea:=app (List.replicate h.kids.length wq++r.map qE);have el:=len (List.replicate h.kids.length wq++r.map qE);show _/\_;rw [e3,ea,el];simp only [go_sem,simprocAttr,g3,c3,g10,g11,g12,g5,c9,g7,g24,g25,g8,c21,hlr,e5,Int.natCast_succ]
   | false=>
    have hqa:qa q=q.a:=by unfold qa;rw [ew];rfl
    have hqkq:qk q=q.kids:=by unfold qk;rw [ew];rfl
    have hha:qa h=h.a:=by unfold qa;rw [hh];rfl
    have hkind:(q.a.kind==1)=false:=by
     unfold isW at ew
     simp only [Bool.or_eq_false_iff,decide_eq_false_iff_not] at ew
     simpa using ew.1
    have hs:=QB q h;have hse:(((qa q).kind==(qa h).kind)&&(((qa q).n==(qa h).n)&&((qa q).s.toList==(qa h).s.toList)))=yg q h:=by rw [hqa,hha];rfl
    rw [hse,hqq,hqe] at hs
    rw [hqa,hqkq] at hx hs
    have hqkl:=hkk q (.tail _ (List.mem_flatten.2 ⟨_,List.getElem_mem hlt,by rw [hq];exact .head _⟩))
    cases es:yg q h with
    | true=>
     rw [es] at hs
     rw [openD_e ew es,Option.toList_some] at e3
     have ea:=app (q.kids.map qE++r.map qE);have el:=len (q.kids.map qE++r.map qE)
     (have hWf:=w10 @h3 @b3 @h10 @h11 @h12 @h5 @b9 @hx @hll (ai @e5<|@hkind);repeat' (first|refine zS ?_|refine zI ?_ ?_|refine zK hs ?_|exact zF0|refine zD fun hb=>?_|exact zC|refine zT ?_|fail))
     refine hK (rows.length - (k+1)) _ (by omega) ⟨k+1,by omega,rfl,?_⟩
     show _/\_;rw [e3,ea,el];simp only [go_sem,simprocAttr,h3,b3,h10,h11,h12,h5,b9,hx,hll,e5,Int.natCast_succ]
    | false=>
     rw [es] at hs
     rw [openD_n ew es,Option.toList_none,List.append_nil] at e3
     (have hWf:=w10 @h3 @b3 @h10 @h11 @h12 @h5 @b9 @hx @hll (ai @e5<|@hkind);repeat' (first|refine zS ?_|refine zI ?_ ?_|refine zK hs ?_|exact zF0|refine zD fun hb=>?_|exact zC|refine zT ?_|fail))
     refine hK (rows.length - (k+1)) _ (by omega) ⟨k+1,by omega,rfl,?_⟩
     show _/\_;rw [e3];simp only [go_sem,simprocAttr,h3,b3,h10,h11,h12,h5,b9,hx,hll,e5,Int.natCast_succ]
  ·obtain rfl:k=rows.length:=by omega
   rw [List.take_length] at h5 b9
   have e5:((rows.filterMap (yk h)).map rowO).length=(rows.filterMap (yk h)).length:=List.length_map ..;have e6:((rows.filterMap (yk h)).map rowO).take (rows.filterMap (yk h)).length=(rows.filterMap (yk h)).map rowO:=by rw [<- e5,List.take_length]
   (have hWf:=w9 @h3 @b3 @h10 @h11 @h12 @h5 @b9 @e5 @e6;repeat' (first|refine zS ?_|refine zI ?_ ?_|exact zF0|refine zD fun hb=>?_|exact zC|refine zT ?_|fail))
def rowF(d:List (List D)):List D:=[.sl 4 d]
theorem wq_rw:Rr wq (qE yh):=by
 rw [yh,qE_w (.inl rfl)];exact Rr.cons (RW.refl _) (Rr.cons (RW.refl _) (Rr.cons (RW.refl _) (Rr.cons (RW.nilS 4) (Rr.refl []))))
theorem wqs_rw(r:List (List D)):∀ n:Nat,RWs (List.replicate n wq++r) ((xi n).map qE++r)
 | 0=>RWs.refl r
 | n+1=>by
  rw [List.replicate_succ,xi,List.replicate_succ,List.map_cons,List.cons_append,List.cons_append];exact RWs.cons wq_rw (wqs_rw r n)
theorem openD_frz(h:PT){r:List PT}{d:List (List D)}(e:yk h r=some d):xu d=d:=by
 have hw:frzL wq=wq:=rfl;cases r with
 | nil=>cases e
 | cons q r=>
  unfold yk at e
  simp only at e
  split at e
  ·obtain rfl:=Option.some.inj e
   rw [xI,List.map_append,List.map_replicate,hw,<- xI,wV]
  ·split at e
   ·obtain rfl:=Option.some.inj e
    rw [<- List.map_append,wV]
   ·cases e
theorem openD_rw(h:PT)(r:List PT):(yk h r=none/\Vr h r=none)\/∃ d s,yk h r=some d/\Vr h r=some s/\Rr (rowF d) (rqE s):=by
 cases r with
 | nil=>exact .inl ⟨rfl,rfl⟩
 | cons q r=>
  cases ew:isW q with
  | true=>exact .inr ⟨_,_,openD_w ew,by rw [vL,ew];rfl,Rr.cons (RW.sl (by rw [List.map_append];exact wqs_rw _ _)) (Rr.refl [])⟩
  | false=>
   cases es:yg q h with
   | true=>exact .inr ⟨_,_,openD_e ew es,by rw [vL,ew,es];rfl,Rr.cons (RW.sl (by rw [List.map_append];exact RWs.refl _)) (Rr.refl [])⟩
   | false=>exact .inl ⟨openD_n ew es,by rw [vL,ew,es];rfl⟩
theorem Q7(h:PT):∀ rows:List (List PT),RWs ((rows.filterMap (yk h)).map rowF) (rqsE (y3 rows h))
 | []=>RWs.refl []
 | r::rows=>by
  have ih:=Q7 h rows;unfold y3 at *
  rw [List.filterMap_cons,List.filterMap_cons];rcases openD_rw h r with ⟨e1,e2⟩|⟨d,s,e1,e2,e3⟩
  ·rw [e1,e2];exact ih
  ·rw [e1,e2];exact RWs.cons e3 ih
theorem QA(rows:List (List PT))(h:PT)(hh:isW h=false)(hl:rows.length<=3000000)(hr:∀ r∈rows,r≠[])(hw:∀ r∈rows,r.length<=3000000)(hkk:∀ q∈h::rows.flatten,q.kids.length<=3000000):FT 112 [.sl 1 (rqsE rows),.ag (qE h)] (fun r _=>r=.sl 1 (rqsE (y3 rows h))):=
 (xcA rows h hh hl hr hw hkk).frz.wk fun r o e=>by
  obtain ⟨r0,rfl,rfl⟩:=e;refine ⟨_,rfl,?_⟩;show RA' (.sl 1 (xu ((rows.filterMap (yk h)).map rowO))) _;rw [show xu ((rows.filterMap (yk h)).map rowO)=(rows.filterMap (yk h)).map rowF from by
   rw [xI,List.map_map];refine List.map_congr_left fun d hd=>?_
   obtain ⟨r,-,e⟩:=List.mem_filterMap.1 hd;show [D.sl 4 (xu d)]=[D.sl 4 d];rw [openD_frz h e]]
  exact RA'.sl (Q7 h rows)
end
section
open Go.RowKit Arb
theorem addH_w{hs:List PT}{q:PT}(r:List PT)(h:isW q=true):addH hs (q::r)=hs:=if_pos (.inl h)
theorem addH_k{hs:List PT}{q:PT}(r:List PT)(h:hs.any (fun h=>yg h q)=true):addH hs (q::r)=hs:=if_pos (.inr h)
theorem addH_n{hs:List PT}{q:PT}(r:List PT)(h:isW q=false)(k:hs.any (fun h=>yg h q)=false):addH hs (q::r)=hs++[q]:=if_neg (by rw [h,k];simp)
theorem ZK{α β:Type}(f:β->α->β)(l:List α)(n:β)(k:Nat)(h:k<l.length):(l.take (k+1)).foldl f n=f ((l.take k).foldl f n) l[k]:=by
 rw [List.take_succ_eq_append_getElem h,List.foldl_append];rfl
theorem xcJ(rows:List (List PT))(k:Nat)(h:k<rows.length):xt (rows.take (k+1))=addH (xt (rows.take k)) rows[k]:=ZK addH rows [] k h
theorem any_take{α:Type}(p:α->Bool)(l:List α)(k:Nat)(h:k<l.length):(l.take (k+1)).any p=((l.take k).any p||p l[k]):=by
 rw [List.take_succ_eq_append_getElem h,List.any_append,List.any_cons,List.any_nil,Bool.or_false]
theorem xbi:∀ (rows:List (List PT)) (hs:List PT),(rows.foldl addH hs).length<=hs.length+rows.length
 | [],hs=>Nat.le_refl _
 | r::rows,hs=>by
  have h:=xbi rows (addH hs r);have:(addH hs r).length<=hs.length+1:=by
   cases r with
   | nil=>exact Nat.le_succ _
   | cons q r=>
    show (if _ then hs else hs++[q]).length<=_
    split
    ·exact Nat.le_succ _
    ·rw [List.length_append];exact Nat.le_refl _
  rw [List.foldl_cons,List.length_cons];omega
theorem YY(rows:List (List PT)):(xt rows).length<=rows.length:=by
 have:=xbi rows [];rw [List.length_nil,Nat.zero_add] at this
 exact this
theorem QU{rows:List (List PT)}{h:PT}(m:h∈xt rows):∃ r,h::r∈rows/\isW h=false:=
 ((vd rows [] .nil).2.1 h m).resolve_left nofun
theorem heads_w{rows:List (List PT)}{h:PT}(m:h∈xt rows):isW h=false:=by
 obtain ⟨_,-,e⟩:=QU m;exact e
def cN(s:ByteArray)(t:MType)(cs:List MCon)(n:Nat):Nat:=cs.foldl (fun n c=>if c.name.toList=s.toList then t.cons.length else n) n
def tN(s:ByteArray)(ts:List MType)(n:Nat):Nat:=ts.foldl (fun n t=>cN s t t.cons n) n
def aN(s:ByteArray):Nat:=if s.toList=[116,114,117,101]\/s.toList=[102,97,108,115,101]\/s.toList=[91,93]\/s.toList=[58,58] then 2 else 0
theorem tN_fold(s:ByteArray):∀ (ts:List MType) (n:Nat),(ts.flatMap fun t=>t.cons.map fun c=>(t,c)).foldl (fun n q=>if q.2.name.toList=s.toList then q.1.cons.length else n) n=tN s ts n
 | [],n=>rfl
 | t::ts,n=>by
  rw [List.flatMap_cons,List.foldl_append,List.foldl_map,tN_fold s ts];rfl
theorem allN_eq(ts:List MType)(s:ByteArray):allN ts s=tN s ts (aN s):=tN_fold s ts _
theorem tN_take(s:ByteArray)(ts:List MType)(n k:Nat)(h:k<ts.length):tN s (ts.take (k+1)) n=cN s ts[k] ts[k].cons (tN s (ts.take k) n):=ZK _ ts n k h
theorem cN_take(s:ByteArray)(t:MType)(cs:List MCon)(n k:Nat)(h:k<cs.length):cN s t (cs.take (k+1)) n=if cs[k].name.toList=s.toList then t.cons.length else cN s t (cs.take k) n:=ZK _ cs n k h
end
section
attribute [local go_sem] List.length_nil List.map_nil
open Go.RowKit Arb
def smQ(t u:PT):Bool:=((qa t).kind==(qa u).kind)&&(((qa t).n==(qa u).n)&&((qa t).s.toList==(qa u).s.toList))
theorem smQ_eq{t u:PT}(h:isW t=false)(k:isW u=false):smQ t u=yg t u:=by unfold smQ qa;rw [h,k];rfl
def knQ(H:List PT)(q:PT):Bool:=isW q||H.any (fun h=>smQ h q)
theorem kn_t{H:List PT}{q:PT}(r:List PT)(hH:∀ h∈H,isW h=false)(k:knQ H q=true):addH H (q::r)=H:=by
 cases ew:isW q with
 | true=>exact addH_w r ew
 | false=>
  unfold knQ at k
  rw [ew,Bool.false_or] at k
  obtain ⟨h,hh,e⟩:=List.any_eq_true.1 k;exact addH_k r (List.any_eq_true.2 ⟨h,hh,by rw [smQ_eq (hH h hh) ew] at e;exact e⟩)
theorem kn_f{H:List PT}{q:PT}(r:List PT)(hH:∀ h∈H,isW h=false)(k:knQ H q=false):addH H (q::r)=H++[q]:=by
 unfold knQ at k
 rw [Bool.or_eq_false_iff] at k
 refine addH_n r k.1 (List.any_eq_false.2 fun h hh=>?_)
 have:=List.any_eq_false.1 k.2 h hh;rw [smQ_eq (hH h hh) k.1] at this
 exact this
theorem kn_take(H:List PT)(q:PT)(j:Nat)(h:j<H.length):knQ (H.take (j+1)) q=(knQ (H.take j) q||smQ H[j] q):=by
 unfold knQ;rw [any_take _ H j h,Bool.or_assoc]
theorem aN_cases(s:ByteArray):∃ b1 b2 b3 b4:Bool,(s.toList==[116,114,117,101])=b1/\(s.toList==[102,97,108,115,101])=b2/\(s.toList==[91,93])=b3/\(s.toList==[58,58])=b4/\((b1=true/\((aN s:Nat):Int)=2)\/(b1=false/\b2=true/\((aN s:Nat):Int)=2)\/(b1=false/\b2=false/\b3=true/\((aN s:Nat):Int)=2)\/(b1=false/\b2=false/\b3=false/\b4=true/\((aN s:Nat):Int)=2)\/(b1=false/\b2=false/\b3=false/\b4=false/\((aN s:Nat):Int)=0)):=by
 refine ⟨_,_,_,_,rfl,rfl,rfl,rfl,?_⟩;unfold aN;simp only [beq_iff_eq,beq_eq_false_iff_ne]
 by_cases h1:s.toList=[116,114,117,101]
 ·exact .inl ⟨h1,by rw [if_pos (.inl h1)];rfl⟩
 by_cases h2:s.toList=[102,97,108,115,101]
 ·exact .inr (.inl ⟨h1,h2,by rw [if_pos (.inr (.inl h2))];rfl⟩)
 by_cases h3:s.toList=[91,93]
 ·exact .inr (.inr (.inl ⟨h1,h2,h3,by rw [if_pos (.inr (.inr (.inl h3)))];rfl⟩))
 by_cases h4:s.toList=[58,58]
 ·exact .inr (.inr (.inr (.inl ⟨h1,h2,h3,h4,by rw [if_pos (.inr (.inr (.inr h4)))];rfl⟩)))
 ·exact .inr (.inr (.inr (.inr ⟨h1,h2,h3,h4,by rw [if_neg (by simp [h1,h2,h3,h4])];rfl⟩)))
theorem xb3(p:MProgram)(rows:List (List PT))(hl:rows.length<=3000000)(hr:∀ r∈rows,r≠[])(ht:p.types.length<=1048576)(hc:∀ t∈p.types,t.cons.length<=1048576):FT 113 [.ag p.enc,.sl 1 (rqsE rows)] (fun r _=>r=.tup [.osl 112 4 ((xt rows).map qE),.s (.bool (vn p.types (xt rows)))]):=by
 have hll:=vy rows;refine FI PM Tryz.func113 Tryz.ntmps113 [(9,4,[],[],(lin [] [0,1,2,3]))] rfl rfl ?_
 (have hWf:=w2 @hll @MProgram.enc_eq;repeat' (first|refine zS ?_|refine zI ?_ ?_|exact zF0|refine zD fun hb=>?_|exact zC|refine zT ?_|fail))
 refine xd (fun m' σ=>∃ k:Nat,k<=rows.length/\m'=rows.length - k/\σ.t 2=.bx 2 0/\σ.b 2=some (.box [.sl 3 (p.types.map MType.enc),.sl 6 (p.nodes.map MNode.enc)])/\σ.t 19=.sl 1 (rqsE rows)/\σ.t 20=.s (.int .i64 rows.length)/\σ.t 21=.s (.int .i64 k)/\σ.t 6=.bs 18 4 (xt (rows.take k)).length/\σ.b 18=some (.arr 112 4 ((xt (rows.take k)).map qE))) rows.length ⟨0,by omega,by omega,?_⟩ ?_
 ·rw [show xt (rows.take 0)=[] from rfl]
  simp only [go_sem,simprocAttr,hll,MProgram.enc_eq,Int.natCast_zero,List.map_nil,List.length_nil]
  all_goals trace_state
 ·rintro m' σ ⟨k,hk,rfl,h2,b2,h19,h20,h21,h6,b18⟩ K' hK
  by_cases hlt:k<rows.length
  ·have hx:=UW rows k hlt
   have htk:=xcJ rows k hlt;obtain ⟨q,r,hq⟩:∃ q r,rows[k]=q::r:=by
    cases e:rows[k] with
    | nil=>exact absurd e (hr _ (List.getElem_mem hlt))
    | cons q r=>exact ⟨q,r,rfl⟩
   rw [hq] at hx htk
   have hqq:=wv q;rw [List.map_cons,hqq] at hx
   have hHw:∀ h∈xt (rows.take k),isW h=false:=fun h hh=>heads_w hh
   have hHl:=YY (rows.take k);rw [List.length_take] at hHl
   generalize xt (rows.take k)=H at *
   have hHm:(H.map qE).length=H.length:=List.length_map ..;have hk0:∀ b,((qa q).kind==1)=b->knQ (H.take 0) q=b:=fun b e=>by
    rw [<- e];unfold knQ;rw [List.take_zero,List.any_nil,Bool.or_false];cases ew:isW q with
    | true=>unfold qa;rw [ew];rfl
    | false=>
     unfold qa;rw [ew];unfold isW at ew
     simp only [Bool.or_eq_false_iff,decide_eq_false_iff_not] at ew
     show false=(q.a.kind==1)
     simpa using ew.1
   cases e1:((qa q).kind==1) with
   | _=>
    have hk0:=hk0 _ e1
    (have hWf:=w10 @h2 @b2 @h19 @h20 @h21 @h6 @b18 @hx @hHm @e1;repeat' (first|refine zS ?_|refine zI ?_ ?_|exact zF0|refine zD fun hb=>?_|exact zC|refine zT ?_|fail))
    refine xd (fun m' σ=>∃ j:Nat,j<=H.length/\m'=H.length - j/\σ.t 2=.bx 2 0/\σ.b 2=some (.box [.sl 3 (p.types.map MType.enc),.sl 6 (p.nodes.map MNode.enc)])/\σ.t 19=.sl 1 (rqsE rows)/\σ.t 20=.s (.int .i64 rows.length)/\σ.t 21=.s (.int .i64 k)/\σ.t 6=.bs 18 4 H.length/\σ.b 18=some (.arr 112 4 (H.map qE))/\σ.t 8=.sl 4 ([.s (.int .i64 (qa q).kind),.s (.int .i64 (qa q).n),.s (.string (qa q).s),.sl 4 ((qk q).map qE)]::r.map qE)/\σ.t 30=.bs 18 4 H.length/\σ.t 31=.s (.int .i64 H.length)/\σ.t 32=.s (.int .i64 j)/\σ.t 9=.s (.bool (knQ (H.take j) q))) H.length ⟨0,by omega,by omega,?_⟩ ?_
    ·rw [hk0]
     simp only [go_sem,simprocAttr,h2,b2,h19,h20,h21,h6,b18,hx,hHm,e1,Int.natCast_zero]
     all_goals trace_state
    ·clear h2 b2 h19 h20 h21 h6 b18 hk0
     rintro m' σ ⟨j,hj,rfl,h2,b2,h19,h20,h21,h6,b18,h8,h30,h31,h32,h9⟩ K'' hK'
     by_cases hjl:j<H.length
     ·have hy:=xb qE H j hjl
      have hyq:=wv H[j];have hs:=QB H[j] q;have hkt:=kn_take H q j hjl;rw [show (((qa H[j]).kind==(qa q).kind)&&(((qa H[j]).n==(qa q).n)&&((qa H[j]).s.toList==(qa q).s.toList)))=smQ H[j] q from rfl] at hs
      rw [hyq,hqq] at hs
      rw [hyq] at hy
      cases es:smQ H[j] q with
      | true=>
       rw [es,Bool.or_true] at hkt
       rw [es] at hs
       (have hWf:=w10 @h2 @b2 @h19 @h20 @h21 @h6 @b18 @h8 @h30 (ai @h31<|ai @h32<|ai @h9<|ai @hy<|@hHm);repeat' (first|refine zS ?_|refine zI ?_ ?_|refine zK hs ?_|exact zF0|refine zD fun hb=>?_|exact zC|refine zT ?_|fail))
       refine hK' (H.length - (j+1)) _ (by omega) ⟨j+1,by omega,rfl,?_⟩
       rw [hkt];simp only [go_sem,simprocAttr,h2,b2,h19,h20,h21,h6,b18,h8,h30,h31,h32,h9,hy,hHm,Int.natCast_succ]
       all_goals trace_state
      | false=>
       rw [es,Bool.or_false] at hkt
       rw [es] at hs
       (have hWf:=w10 @h2 @b2 @h19 @h20 @h21 @h6 @b18 @h8 @h30 (ai @h31<|ai @h32<|ai @h9<|ai @hy<|@hHm);repeat' (first|refine zS ?_|refine zI ?_ ?_|refine zK hs ?_|exact zF0|refine zD fun hb=>?_|exact zC|refine zT ?_|fail))
       refine hK' (H.length - (j+1)) _ (by omega) ⟨j+1,by omega,rfl,?_⟩
       rw [hkt];simp only [go_sem,simprocAttr,h2,b2,h19,h20,h21,h6,b18,h8,h30,h31,h32,h9,hy,hHm,Int.natCast_succ]
       all_goals trace_state
     ·obtain rfl:j=H.length:=by omega
      rw [List.take_length] at h9
      cases ek:knQ H q with
      | true=>
       rw [kn_t r hHw ek] at htk
       (have hWf:=w10 @h2 @b2 @h19 @h20 @h21 @h6 @b18 @h8 @h30 (ai @h31<|ai @h32<|ai @h9<|ai @hHm<|@ek);repeat' (first|refine zS ?_|refine zI ?_ ?_|exact zF0|refine zD fun hb=>?_|exact zC|refine zT ?_|fail))
       refine hK (rows.length - (k+1)) _ (by omega) ⟨k+1,by omega,rfl,?_⟩
       rw [htk];simp only [go_sem,simprocAttr,h2,b2,h19,h20,h21,h6,b18,h8,h30,h31,h32,h9,hHm,ek,Int.natCast_succ]
       all_goals trace_state
      | false=>
       rw [kn_f r hHw ek] at htk
       (have hWf:=w10 @h2 @b2 @h19 @h20 @h21 @h6 @b18 @h8 @h30 (ai @h31<|ai @h32<|ai @h9<|ai @hHm<|@ek);repeat' (first|refine zS ?_|refine zI ?_ ?_|exact zF0|refine zD fun hb=>?_|exact zC|refine zT ?_|fail))
       refine hK (rows.length - (k+1)) _ (by omega) ⟨k+1,by omega,rfl,?_⟩
       rw [htk];simp only [go_sem,simprocAttr,h2,b2,h19,h20,h21,h6,b18,h8,h30,h31,h32,h9,hHm,ek,hqq,List.map_append,Int.natCast_succ]
       all_goals trace_state
  ·obtain rfl:k=rows.length:=by omega
   rw [List.take_length] at h6 b18
   have hHw:∀ h∈xt rows,isW h=false:=fun h hh=>heads_w hh
   have hHl:=YY rows;generalize xt rows=H at *
   have hHm:(H.map qE).length=H.length:=List.length_map ..;have hHt:(H.map qE).take H.length=H.map qE:=by rw [<- hHm,List.take_length]
   cases H with
   | nil=>
    rw [show vn p.types []=false from rfl]
    (have hWf:=w7 @h2 @b2 @h19 @h20 @h21 @h6 @b18;repeat' (first|refine zS ?_|refine zI ?_ ?_|exact zF0|refine zD fun hb=>?_|exact zC|refine zT ?_|fail))
    all_goals trace_state
   | cons h hs=>
    have hh:=wv h;have hqa:qa h=h.a:=by unfold qa;rw [hHw h (.head _)];rfl
    rw [hqa] at hh
    rw [List.length_cons] at h6 hHl hHt hHm
    have hz:(((hs.length+1:Nat):Int)==0)=false:=by simp;omega
    rw [uk,List.map_cons,hh];cases e6:(h.a.kind==6) with
    | true=>
     rw [if_pos (.inl (by simpa using e6))]
     rw [List.map_cons,hh] at b18 hHt hHm
     (have hWf:=w10 @h2 @b2 @h19 @h20 @h21 @h6 @b18 @hz @e6 (ai @hHt<|@hHm);repeat' (first|refine zS ?_|refine zI ?_ ?_|exact zF0|refine zD fun hb=>?_|exact zC|refine zT ?_|fail))
     all_goals trace_state
    | false=>
     cases e5:(h.a.kind==5) with
     | true=>
      rw [if_pos (.inr (by simpa using e5))]
      rw [List.map_cons,hh] at b18 hHt hHm
      (have hWf:=w10 @h2 @b2 @h19 @h20 @h21 @h6 @b18 @hz @e6 (ai @e5<|ai @hHt<|@hHm);repeat' (first|refine zS ?_|refine zI ?_ ?_|exact zF0|refine zD fun hb=>?_|exact zC|refine zT ?_|fail))
      all_goals trace_state
     | false=>
      rw [if_neg (by rw [beq_eq_false_iff_ne] at e5 e6;omega)]
      cases e3:(h.a.kind==3) with
      | true=>
       rw [if_pos (by simpa using e3)]
       rw [List.map_cons,hh] at b18 hHt hHm
       (have hWf:=w10 @h2 @b2 @h19 @h20 @h21 @h6 @b18 @hz @e6 (ai @e5<|ai @e3<|ai @hHt<|@hHm);repeat' (first|refine zS ?_|refine zI ?_ ?_|exact zF0|refine zD fun hb=>?_|exact zC|refine zT ?_|fail))
       all_goals trace_state
      | false=>
       rw [if_neg (by simpa using e3),allN_eq]
       rw [List.map_cons,hh] at b18 hHt hHm
       obtain ⟨b1,b3,b4,b5,f1,f2,f3,f4,hcs⟩:=aN_cases h.a.s;generalize hAA:aN h.a.s=A at *
       have hA:tN h.a.s [] A=A:=rfl;rcases hcs with ⟨rfl,fa⟩|⟨rfl,rfl,fa⟩|⟨rfl,rfl,rfl,fa⟩|⟨rfl,rfl,rfl,rfl,fa⟩|⟨rfl,rfl,rfl,rfl,fa⟩
       all_goals
        (have hWf:=w10 @h2 @b2 @h19 @h20 @h21 @h6 @b18 @hz @e6 (ai @e5<|ai @e3<|ai @f1<|ai @f2<|ai @f3<|ai @f4<|ai @lt_t<|ai @lf_t<|ai @ua<|ai @uo<|@hHm);repeat' (first|refine zS ?_|refine zI ?_ ?_|exact zF0|refine zD fun hb=>?_|exact zC|refine zT ?_|fail))
        refine xd (fun m' σ=>∃ k:Nat,k<=p.types.length/\m'=p.types.length - k/\σ.t 90=.sl 3 (p.types.map MType.enc)/\σ.t 91=.s (.int .i64 p.types.length)/\σ.t 92=.s (.int .i64 k)/\σ.t 12=.bx 12 0/\σ.b 12=some (.box [.s (.int .i64 h.a.kind),.s (.int .i64 h.a.n),.s (.string h.a.s),.sl 4 ((qk h).map qE)])/\σ.t 13=.s (.int .i64 (tN h.a.s (p.types.take k) A:Nat))/\σ.t 6=.bs 18 4 (hs.length+1)/\σ.b 18=some (.arr 112 4 ([.s (.int .i64 h.a.kind),.s (.int .i64 h.a.n),.s (.string h.a.s),.sl 4 ((qk h).map qE)]::hs.map qE))) p.types.length ⟨0,by omega,by omega,?_⟩ ?_
        ·simp only [go_sem,simprocAttr,h2,b2,h19,h20,h21,h6,b18,hHm,Int.natCast_zero,List.take_zero,hA,fa]
         all_goals trace_state
        ·clear h2 b2 h19 h20 h21 h6 b18 hA fa f1 f2 f3 f4 hAA
         rintro m' σ ⟨k,hk,rfl,h90,h91,h92,h12,b12,h13,h6,b18⟩ K' hK
         by_cases hlt:k<p.types.length
         ·have hx:=xb MType.enc p.types k hlt
          have htt:=tN_take h.a.s p.types A k hlt;have hcl:=hc _ (List.getElem_mem hlt);generalize tN h.a.s (p.types.take k) A=B at *
          generalize p.types[k]=t at *
          have hte:=MType.enc_eq t
          (have hWf:=w10 @h90 @h91 @h92 @h12 @b12 @h13 @h6 @b18 @hx @hte;repeat' (first|refine zS ?_|refine zI ?_ ?_|exact zF0|refine zD fun hb=>?_|exact zC|refine zT ?_|fail))
          refine xd (fun m' σ=>∃ j:Nat,j<=t.cons.length/\m'=t.cons.length - j/\σ.t 90=.sl 3 (p.types.map MType.enc)/\σ.t 91=.s (.int .i64 p.types.length)/\σ.t 92=.s (.int .i64 k)/\σ.t 12=.bx 12 0/\σ.b 12=some (.box [.s (.int .i64 h.a.kind),.s (.int .i64 h.a.n),.s (.string h.a.s),.sl 4 ((qk h).map qE)])/\σ.t 13=.s (.int .i64 (cN h.a.s t (t.cons.take j) B:Nat))/\σ.t 6=.bs 18 4 (hs.length+1)/\σ.b 18=some (.arr 112 4 ([.s (.int .i64 h.a.kind),.s (.int .i64 h.a.n),.s (.string h.a.s),.sl 4 ((qk h).map qE)]::hs.map qE))/\σ.t 15=.bx 15 0/\σ.b 15=some (.box [.s (.string t.name),.s (.int .i64 t.params),.sl 3 (t.cons.map MCon.enc)])/\σ.t 97=.sl 3 (t.cons.map MCon.enc)/\σ.t 98=.s (.int .i64 t.cons.length)/\σ.t 99=.s (.int .i64 j)) t.cons.length ⟨0,by omega,by omega,?_⟩ ?_
          ·rw [show cN h.a.s t (t.cons.take 0) B=B from rfl]
           simp only [go_sem,simprocAttr,h90,h91,h92,h12,b12,h13,h6,b18,Int.natCast_zero]
           all_goals trace_state
          ·clear h90 h91 h92 h12 b12 h13 h6 b18
           rintro m' σ ⟨j,hj,rfl,h90,h91,h92,h12,b12,h13,h6,b18,h15,b15,h97,h98,h99⟩ K'' hK''
           by_cases hlj:j<t.cons.length
           ·have hy:=xb MCon.enc t.cons j hlj
            have hct:=cN_take h.a.s t t.cons B j hlj;generalize t.cons[j]=c at *
            have hce:=MCon.enc_eq c;cases ec:(c.name.toList==h.a.s.toList) with
            | false=>
             rw [if_neg (by simpa using ec)] at hct
             (have hWf:=w10 @h90 @h91 @h92 @h12 @b12 @h13 @h6 @b18 @h15 (ai @b15<|ai @h97<|ai @h98<|ai @h99<|ai @hy<|ai @hce<|@ec);repeat' (first|refine zS ?_|refine zI ?_ ?_|exact zF0|refine zD fun hb=>?_|exact zC|refine zT ?_|fail))
             refine hK'' (t.cons.length - (j+1)) _ (by omega) ⟨j+1,by omega,rfl,?_⟩
             rw [hct];simp only [go_sem,simprocAttr,h90,h91,h92,h12,b12,h13,h6,b18,h15,b15,h97,h98,h99,Int.natCast_succ]
             all_goals trace_state
            | true=>
             rw [if_pos (by simpa using ec)] at hct
             (have hWf:=w10 @h90 @h91 @h92 @h12 @b12 @h13 @h6 @b18 @h15 (ai @b15<|ai @h97<|ai @h98<|ai @h99<|ai @hy<|ai @hce<|@ec);repeat' (first|refine zS ?_|refine zI ?_ ?_|exact zF0|refine zD fun hb=>?_|exact zC|refine zT ?_|fail))
             refine hK'' (t.cons.length - (j+1)) _ (by omega) ⟨j+1,by omega,rfl,?_⟩
             rw [hct];simp only [go_sem,simprocAttr,h90,h91,h92,h12,b12,h13,h6,b18,h15,b15,h97,h98,h99,Int.natCast_succ]
             all_goals trace_state
           ·obtain rfl:j=t.cons.length:=by omega
            rw [List.take_length] at h13
            rw [<- htt] at h13
            (have hWf:=w10 @h90 @h91 @h92 @h12 @b12 @h13 @h6 @b18 @h15 (ai @b15<|ai @h97<|ai @h98<|@h99);repeat' (first|refine zS ?_|refine zI ?_ ?_|exact zF0|refine zD fun hb=>?_|exact zC|refine zT ?_|fail))
            refine hK (p.types.length - (k+1)) _ (by omega) ⟨k+1,by omega,rfl,?_⟩
            simp only [go_sem,simprocAttr,h90,h91,h92,h12,b12,h13,h6,b18,Int.natCast_succ]
            all_goals trace_state
         ·obtain rfl:k=p.types.length:=by omega
          rw [List.take_length] at h13
          (have hWf:=w10 @h90 @h91 @h92 @h12 @b12 @h13 @h6 @b18 @hHt @hHm;repeat' (first|refine zS ?_|refine zI ?_ ?_|exact zF0|refine zD fun hb=>?_|exact zC|refine zT ?_|fail))
          all_goals trace_state
theorem xcz(p:MProgram)(rows:List (List PT))(hl:rows.length<=3000000)(hr:∀ r∈rows,r≠[])(ht:p.types.length<=1048576)(hc:∀ t∈p.types,t.cons.length<=1048576):FT 113 [.ag p.enc,.sl 1 (rqsE rows)] (fun r _=>r=.tup [.sl 4 ((xt rows).map qE),.s (.bool (vn p.types (xt rows)))]):=
 FCon.ice ((xb3 p rows hl hr ht hc).mono fun r _ e=>by
  subst e;show D.tup [D.sl 4 (xu ((xt rows).map qE)),D.s _]=_;rw [wV])
end
section
attribute [local go_sem] List.length_map
open Go.RowKit Arb
theorem rqs_frz(rows:List (List PT)):xu (rqsE rows)=rqsE rows:=by
 rw [rqsE,xI,List.map_map];exact List.map_congr_left fun r _=>rfl
theorem wqs_frz(n:Nat):xu (List.replicate n wq)=List.replicate n wq:=by
 rw [xI,List.map_replicate];rfl
theorem FCon.wqs{P:Program}{f:FuncId}{a b:D}{k:Nat}{r:List PT}{Rs:D->List D->Prop}(h:FCon P f [a,b,.sl 4 ((xi k++r).map qE)] Rs):FCon P f [a,b,.sl 4 (List.replicate k wq++r.map qE)] Rs:=
 h.arg _ rfl fun j d' d e1 e2 g w u q=>by
  match j,e1,e2 with
  | 0,e1,e2=>simp at e1 e2;subst e1 e2;exact q
  | 1,e1,e2=>simp at e1 e2;subst e1 e2;exact q
  | 2,e1,e2=>
   simp only [List.getElem?_cons_succ,List.getElem?_cons_zero,Option.some.injEq] at e1 e2
   subst e1 e2;rw [List.map_append];exact RW.sl (wqs_rw _ _) _ _ _ _ _ (show Rep g.S g.up w (some (.par 2 0)) _ u from q)
  | j+3,e1,e2=>simp at e1
theorem ug(p:MProgram)(T:TysU p.types)(ht:p.types.length<=1048576)(hc:∀ t∈p.types,t.cons.length<=1048576):∀ (n:Nat) (rows:List (List PT)) (row:List PT) (l:List (List TyI)),n<=3000000->2*(x5 rows+xw row)+row.length<n->rows.length<=3000000->uR p.types rows l->Row p.types row l->okR row->FT 61 [.ag p.enc,.sl 1 (rqsE rows),.sl 4 (row.map qE)] (fun r _=>r=.s (.bool (useS p.types n rows row)))
 | 0,_,_,_,_,h,_,_,_,_=>absurd h (Nat.not_lt_zero _)
 | n+1,rows,[],l,hn,hm,hl,hr,hrow,ho=>by
  have hll:=vy rows;have e:((rows.length:Int)==0)=rows.isEmpty:=by cases rows with
   | nil=>rfl
   | cons a l=>show (((l.length+1:Nat):Int)==0)=false;simpa using (by omega:((l.length:Int)+1≠0))
  rw [useS];refine FI PM Tryz.func61 Tryz.ntmps61 [(4,15,[6,11,14],[(6,0),(6,1),(6,2),(6,3),(6,4),(6,5),(6,7),(6,8),(6,9),(6,10),(6,12),(6,13),(11,0),(11,12),(11,13),(14,0)],(lin [6,11,14] [0,1,2,3,4,5,7,8,9,10,12,13,6,11,14])),(15,8,[7],[(7,0)],(lin [7] [0,1,2,3,4,5,6,7])),(26,4,[],[],(lin [] [0,1,2,3]))] rfl rfl ?_
  (have hWf:=w2 @hll @MProgram.enc_eq;repeat' (first|refine zS ?_|refine zI ?_ ?_|exact zF0|refine zD fun hb=>?_|exact zC|refine zT ?_|fail))
  exact sB e
 | n+1,rows,q::r,[],hn,hm,hl,hr,h,ho=>h.elim
 | n+1,rows,q::r,t::l,hn,hm,hl,hr,h,ho=>by
  have hll:=vy rows;have hrl:=Row.len h;rw [List.length_cons,List.length_cons] at hrl
  have ho':okR r:=fun x hx=>ho x (List.mem_cons_of_mem _ hx)
  have hrT:∀ r∈rows,Row p.types r (t::l):=fun r hr'=>(hr r hr').1
  have hne:∀ s∈rows,s≠[]:=fun s hs e=>by subst e;exact (hr _ hs).1.elim
  rw [xw,List.length_cons] at hm
  have hwd:∀ s∈rows,s.length<=3000000:=fun s hs=>by
   have:=Row.len (hr s hs).1;rw [List.length_cons] at this;omega
  have hkk:∀ x∈rows.flatten,x.kids.length<=3000000:=fun x hx=>by
   obtain ⟨s,hs,hx⟩:=List.mem_flatten.1 hx;have:=XD (k2_ok ((hr s hs).2 x hx));omega
  have hqq:=wv q;cases ew:isW q with
  | false=>
   have hq2:=XD (k2_ok (ho q (.head _)));have hqa:∀ x∈q::rows.flatten,x.kids.length<=3000000:=fun x hx=>by
    rcases List.mem_cons.1 hx with e|hx
    ·rw [e];omega
    ·exact hkk x hx
   have hop:=QA rows q ew hl hne hwd hqa;have hh:=ZO ew;have hle:=xbw rows q;have heq:=Wz T hrT h.1 ew;rw [heq] at hle
   have hlo:(y3 rows q).length<=rows.length:=List.length_filterMap_le _ _;obtain ⟨κ,k1,kk⟩:=Wu T h.1 ew;have ih:=ug p T ht hc n (y3 rows q) (q.kids++r) (κ++l) (by omega) (by rw [z4,List.length_append];omega) (by omega) (WA T hr k1 kk) (Row.app k1 h.2) ((V6 (ho q (.head _))).app ho')
   have e1:qa q=q.a:=by unfold qa;rw [ew];rfl
   have e2:qk q=q.kids:=by unfold qk;rw [ew];rfl
   rw [e1,e2] at hqq
   have hkd:(q.a.kind != 1)=true:=by
    unfold isW at ew
    simp only [Bool.or_eq_false_iff,decide_eq_false_iff_not] at ew
    simpa using ew.1
   rw [useS,ew,if_neg (by simp)]
   rw [MProgram.enc_eq,List.map_append] at ih
   rw [hqq] at hop
   rw [List.map_cons,hqq];refine FI PM Tryz.func61 Tryz.ntmps61 [(4,15,[6,11,14],[(6,0),(6,1),(6,2),(6,3),(6,4),(6,5),(6,7),(6,8),(6,9),(6,10),(6,12),(6,13),(11,0),(11,12),(11,13),(14,0)],(lin [6,11,14] [0,1,2,3,4,5,7,8,9,10,12,13,6,11,14])),(15,8,[7],[(7,0)],(lin [7] [0,1,2,3,4,5,6,7])),(26,4,[],[],(lin [] [0,1,2,3]))] rfl rfl ?_
   (have hWf:=w4 @hll @MProgram.enc_eq @hkd @wV;repeat' (first|refine zS ?_|refine zI ?_ ?_|refine zK hop ?_|refine zK ih ?_|exact zF0|refine zD fun hb=>?_|exact zC|refine zT ?_|fail))
   all_goals trace_state
  | true=>
   have hkd:(qa q).kind=1:=by unfold qa;rw [ew];rfl
   have hhd:=xcz p rows hl hne ht hc;have hHl:=YY rows;have hHm:∀ h∈xt rows,∃ r,h::r∈rows/\isW h=false:=fun h hh=>QU hh
   rw [useS,ew,if_pos rfl];rw [List.map_cons,hqq,hkd];cases eh:vn p.types (xt rows) with
   | false=>
    rw [if_neg (by simp)]
    rw [eh,MProgram.enc_eq] at hhd
    have hle:=Q8 rows;have hlo:(xO rows).length<=rows.length:=List.length_filterMap_le _ _;have ih:=ug p T ht hc n (xO rows) r l (by omega) (by omega) (by omega) (xbz hr) h.2 ho'
    rw [MProgram.enc_eq] at ih
    refine FI PM Tryz.func61 Tryz.ntmps61 [(4,15,[6,11,14],[(6,0),(6,1),(6,2),(6,3),(6,4),(6,5),(6,7),(6,8),(6,9),(6,10),(6,12),(6,13),(11,0),(11,12),(11,13),(14,0)],(lin [6,11,14] [0,1,2,3,4,5,7,8,9,10,12,13,6,11,14])),(15,8,[7],[(7,0)],(lin [7] [0,1,2,3,4,5,6,7])),(26,4,[],[],(lin [] [0,1,2,3]))] rfl rfl ?_
    (have hWf:=w2 @hll @MProgram.enc_eq;repeat' (first|refine zS ?_|refine zI ?_ ?_|refine zK hhd ?_|exact zF0|refine zD fun hb=>?_|exact zC|refine zT ?_|fail))
    refine xd (fun m' σ=>∃ k:Nat,k<=rows.length/\m'=rows.length - k/\σ.t 2=.sl 4 ([.s (.int .i64 1),.s (.int .i64 (qa q).n),.s (.string (qa q).s),.sl 4 ((qk q).map qE)]::r.map qE)/\σ.t 3=.bx 3 0/\σ.b 3=some (.box [.sl 3 (p.types.map MType.enc),.sl 6 (p.nodes.map MNode.enc)])/\σ.t 77=.sl 1 (rqsE rows)/\σ.t 78=.s (.int .i64 rows.length)/\σ.t 79=.s (.int .i64 k)/\σ.t 12=.bs 76 1 ((rows.take k).filterMap yX).length/\σ.b 76=some (.arr 110 1 (rqsE ((rows.take k).filterMap yX)))) rows.length ⟨0,by omega,by omega,?_⟩ ?_
    ·simp only [go_sem,simprocAttr,hll,Int.natCast_zero,List.take_zero,List.filterMap_nil,List.length_nil,rqsE,List.map_nil]
     all_goals trace_state
    ·rintro m' σ ⟨k,hk,rfl,h2,h3,b3,h77,h78,h79,h12,b76⟩ K' hK
     by_cases hlt:k<rows.length
     ·have hx:=UW rows k hlt
      have e3:=WH yX rows k hlt;have e4:=fm_le yX rows k;have e5:=vy ((rows.take k).filterMap yX);have hrw:=hwd _ (List.getElem_mem hlt);obtain ⟨q0,r0,hq0⟩:∃ q r,rows[k]=q::r:=by
       cases e:rows[k] with
       | nil=>exact absurd e (hne _ (List.getElem_mem hlt))
       | cons q r=>exact ⟨q,r,rfl⟩
      rw [hq0] at hx e3 hrw
      rw [List.length_cons] at hrw
      have hqq0:=wv q0;rw [List.map_cons,hqq0] at hx
      rw [W8] at e3
      generalize (rows.take k).filterMap yX=X at *
      have happ:rqsE (X++[r0])=rqsE X++[[.sl 4 (r0.map qE)]]:=by unfold rqsE;rw [List.map_append];rfl
      cases e0:isW q0 with
      | true=>
       have hk0:((qa q0).kind==1)=true:=by unfold qa;rw [e0];rfl
       rw [e0,if_pos rfl,Option.toList_some] at e3
       (have hWf:=w10 @h2 @h3 @b3 @h77 @h78 @h79 @h12 @b76 @hx (ai @e5<|@hk0);repeat' (first|refine zS ?_|refine zI ?_ ?_|exact zF0|refine zD fun hb=>?_|exact zC|refine zT ?_|fail))
       refine hK (rows.length - (k+1)) _ (by omega) ⟨k+1,by omega,rfl,?_⟩
       rw [e3,List.length_append,List.length_singleton,happ];simp only [go_sem,simprocAttr,h2,h3,b3,h77,h78,h79,h12,b76,e5,Int.natCast_succ]
       all_goals trace_state
      | false=>
       have hk0:((qa q0).kind==1)=false:=by
        unfold qa;rw [e0];unfold isW at e0
        simp only [Bool.or_eq_false_iff,decide_eq_false_iff_not] at e0
        show (q0.a.kind==1)=false
        simpa using e0.1
       rw [e0,if_neg (by simp),Option.toList_none,List.append_nil] at e3
       (have hWf:=w10 @h2 @h3 @b3 @h77 @h78 @h79 @h12 @b76 @hx (ai @e5<|@hk0);repeat' (first|refine zS ?_|refine zI ?_ ?_|exact zF0|refine zD fun hb=>?_|exact zC|refine zT ?_|fail))
       refine hK (rows.length - (k+1)) _ (by omega) ⟨k+1,by omega,rfl,?_⟩
       rw [e3];simp only [go_sem,simprocAttr,h2,h3,b3,h77,h78,h79,h12,b76,e5,Int.natCast_succ]
       all_goals trace_state
     ·obtain rfl:k=rows.length:=by omega
      rw [List.take_length] at h12 b76
      rw [show rows.filterMap yX=xO rows from rfl] at h12 b76
      have e5:=vy (xO rows);have e6:(rqsE (xO rows)).take (xO rows).length=rqsE (xO rows):=by rw [<- e5,List.take_length]
      (have hWf:=w10 @h2 @h3 @b3 @h77 @h78 @h79 @h12 @b76 @e5 (ai @e6<|@rqs_frz);repeat' (first|refine zS ?_|refine zI ?_ ?_|refine zK ih ?_|exact zF0|refine zD fun hb=>?_|exact zC|refine zT ?_|fail))
      all_goals trace_state
   | true=>
    rw [if_pos rfl];rw [eh,MProgram.enc_eq] at hhd
    generalize xt rows=H at *
    refine FI PM Tryz.func61 Tryz.ntmps61 [(4,15,[6,11,14],[(6,0),(6,1),(6,2),(6,3),(6,4),(6,5),(6,7),(6,8),(6,9),(6,10),(6,12),(6,13),(11,0),(11,12),(11,13),(14,0)],(lin [6,11,14] [0,1,2,3,4,5,7,8,9,10,12,13,6,11,14])),(15,8,[7],[(7,0)],(lin [7] [0,1,2,3,4,5,6,7])),(26,4,[],[],(lin [] [0,1,2,3]))] rfl rfl ?_
    (have hWf:=w2 @hll @MProgram.enc_eq;repeat' (first|refine zS ?_|refine zI ?_ ?_|refine zK hhd ?_|exact zF0|refine zD fun hb=>?_|exact zC|refine zT ?_|fail))
    refine xd (fun m' σ=>∃ j:Nat,j<=H.length/\m'=H.length - j/\(∀ f∈H.take j,useS p.types n (y3 rows f) (xi f.kids.length++r)=false)/\σ.t 1=.sl 1 (rqsE rows)/\σ.t 2=.sl 4 ([.s (.int .i64 1),.s (.int .i64 (qa q).n),.s (.string (qa q).s),.sl 4 ((qk q).map qE)]::r.map qE)/\σ.t 3=.bx 3 0/\σ.b 3=some (.box [.sl 3 (p.types.map MType.enc),.sl 6 (p.nodes.map MNode.enc)])/\σ.t 49=.sl 4 (H.map qE)/\σ.t 50=.s (.int .i64 H.length)/\σ.t 51=.s (.int .i64 j)) H.length ⟨0,by omega,by omega,(by simp),?_⟩ ?_
    ·simp only [go_sem,simprocAttr,hll,MProgram.enc_eq,Int.natCast_zero,List.length_map]
     all_goals trace_state
    ·rintro m' σ ⟨j,hj,rfl,hno,h1,h2,h3,b3,h49,h50,h51⟩ K' hK
     by_cases hjl:j<H.length
     ·have hy:=xb qE H j hjl
      obtain ⟨f,hf⟩:∃ f,f=H[j]:=⟨_,rfl⟩;have hfm:f∈H:=by rw [hf];exact List.getElem_mem hjl
      obtain ⟨r1,m1,w1⟩:=hHm f hfm;rw [<- hf] at hy
      have hft:=(hr _ m1).1.1;have hfo:=(hr _ m1).2 f (.head _);have hf2:=XD (k2_ok hfo);have hqa:∀ x∈f::rows.flatten,x.kids.length<=3000000:=fun x hx=>by
       rcases List.mem_cons.1 hx with e|hx
       ·rw [e];omega
       ·exact hkk x hx
      have hop:=QA rows f w1 hl hne hwd hqa;have hlt:=xbx f w1 m1;rw [Wz T hrT hft w1] at hlt
      have hlo:(y3 rows f).length<=rows.length:=List.length_filterMap_le _ _;obtain ⟨κ,k1,kk⟩:=Wu T hft w1;have hwl:=Xo f.kids.length;have hhw:=vK f.kids.length;have ih:=FCon.wqs (ug p T ht hc n (y3 rows f) (xi f.kids.length++r) (κ++l) (by omega) (by rw [z4,List.length_append];omega) (by omega) (WA T hr k1 kk) (Row.app (wild_ty _ κ k1.len.symm) h.2) ((UL _).app ho'))
      rw [MProgram.enc_eq] at ih
      have hfq:=wv f;have e1:qa f=f.a:=by unfold qa;rw [w1];rfl
      have e2:qk f=f.kids:=by unfold qk;rw [w1];rfl
      rw [e1,e2] at hfq
      rw [hfq] at hy hop
      have hP:∀ b,useS p.types n (y3 rows f) (xi f.kids.length++r)=b->(fun f=>useS p.types n (y3 rows f) (xi f.kids.length++r)) H[j]=b:=fun b e=>by rw [<- hf];exact e
      (have hWf:=w8 @h1 @h2 @h3 @b3 @h49 @h50 @h51 @hy;repeat' (first|refine zS ?_|refine zI ?_ ?_|exact zF0|refine zD fun hb=>?_|exact zC|refine zT ?_|fail))
      refine xd (fun m' σ=>∃ i:Nat,i<=f.kids.length/\m'=f.kids.length - i/\σ.t 1=.sl 1 (rqsE rows)/\σ.t 2=.sl 4 ([.s (.int .i64 1),.s (.int .i64 (qa q).n),.s (.string (qa q).s),.sl 4 ((qk q).map qE)]::r.map qE)/\σ.t 3=.bx 3 0/\σ.b 3=some (.box [.sl 3 (p.types.map MType.enc),.sl 6 (p.nodes.map MNode.enc)])/\σ.t 49=.sl 4 (H.map qE)/\σ.t 50=.s (.int .i64 H.length)/\σ.t 51=.s (.int .i64 j)/\σ.t 10=.bx 10 0/\σ.b 10=some (.box [.s (.int .i64 f.a.kind),.s (.int .i64 f.a.n),.s (.string f.a.s),.sl 4 (f.kids.map qE)])/\σ.t 58=.s (.int .i64 f.kids.length)/\σ.t 59=.s (.int .i64 i)/\σ.t 11=.bs 55 4 i/\σ.b 55=some (.arr 112 4 (List.replicate i wq))) f.kids.length ⟨0,by omega,by omega,?_⟩ ?_
      ·simp only [go_sem,simprocAttr,h1,h2,h3,b3,h49,h50,h51,hy,Int.natCast_zero,List.replicate_zero,List.length_map]
       all_goals trace_state
      ·clear h1 h2 h3 b3 h49 h50 h51
       rintro m' σ ⟨i,hi,rfl,h1,h2,h3,b3,h49,h50,h51,h10,b10,h58,h59,h11,b55⟩ K'' hK'
       by_cases hil:i<f.kids.length
       ·have hlr:(List.replicate i wq).length=i:=List.length_replicate
        (have hWf:=w10 @h1 @h2 @h3 @b3 @h49 @h50 @h51 @h10 @b10 (ai @h58<|ai @h59<|ai @h11<|ai @b55<|@hlr);repeat' (first|refine zS ?_|refine zI ?_ ?_|exact zF0|refine zD fun hb=>?_|exact zC|refine zT ?_|fail))
        refine hK' (f.kids.length - (i+1)) _ (by omega) ⟨i+1,by omega,rfl,?_⟩
        simp only [go_sem,simprocAttr,h1,h2,h3,b3,h49,h50,h51,h10,b10,h58,h59,h11,b55,hlr,Int.natCast_succ,List.replicate_succ',wq]
        all_goals trace_state
       ·obtain rfl:i=f.kids.length:=by omega
        have hlr:(List.replicate f.kids.length wq).length=f.kids.length:=List.length_replicate;cases hu:useS p.types n (y3 rows f) (xi f.kids.length++r) with
        | true=>
         have hany:=any_at (p:=fun f=>useS p.types n (y3 rows f) (xi f.kids.length++r)) hjl (hP _ hu)
         rw [hany];rw [hu] at ih
         (have hWf:=w10 @h1 @h2 @h3 @b3 @h49 @h50 @h51 @h10 @b10 (ai @h58<|ai @h59<|ai @h11<|ai @b55<|ai @hlr<|ai @wV<|@wqs_frz);repeat' (first|refine zS ?_|refine zI ?_ ?_|refine zK hop ?_|refine zK ih ?_|exact zF0|refine zD fun hb=>?_|exact zC|refine zT ?_|fail))
         all_goals trace_state
        | false=>
         have hno':=uf (p:=fun f=>useS p.types n (y3 rows f) (xi f.kids.length++r)) hjl hno (hP _ hu)
         rw [hu] at ih
         (have hWf:=w10 @h1 @h2 @h3 @b3 @h49 @h50 @h51 @h10 @b10 (ai @h58<|ai @h59<|ai @h11<|ai @b55<|ai @hlr<|ai @wV<|@wqs_frz);repeat' (first|refine zS ?_|refine zI ?_ ?_|refine zK hop ?_|refine zK ih ?_|exact zF0|refine zD fun hb=>?_|exact zC|refine zT ?_|fail))
         refine hK (H.length - (j+1)) _ (by omega) ⟨j+1,by omega,rfl,hno',?_⟩
         simp only [go_sem,simprocAttr,h1,h2,h3,b3,h49,h50,h51,h10,b10,h58,h59,Int.natCast_succ]
         all_goals trace_state
     ·obtain rfl:j=H.length:=by omega
      rw [List.take_length] at hno
      have hany:(H.any fun f=>useS p.types n (y3 rows f) (xi f.kids.length++r))=false:=List.any_eq_false.2 fun f hf=>by rw [hno f hf];simp
      rw [hany]
      (have hWf:=w7 @h1 @h2 @h3 @b3 @h49 @h50 @h51;repeat' (first|refine zS ?_|refine zI ?_ ?_|exact zF0|refine zD fun hb=>?_|exact zC|refine zT ?_|fail))
      all_goals trace_state
end
section
open Go.RowKit Arb
theorem tysU{p:MProgram}(hp:yq p=true)(h:AllR p.types):TysU p.types:=by
 have hcon:∀ t∈p.types,∀ c∈t.cons,conM c.name.data.toList=true:=fun t ht c hc=>by
  unfold yq at hp
  simp only [Bool.and_eq_true,decide_eq_true_eq,List.all_eq_true] at hp
  have h1:=hp.1.1.2 t ht;unfold yI at h1
  simp only [Bool.and_eq_true,decide_eq_true_eq,List.all_eq_true] at h1
  have h2:=h1.2 c hc;unfold ye at h2
  rw [Bool.and_eq_true] at h2
  exact h2.1
 refine { Yb hp with gv:=fun t ht=>?_,con:=hcon,dist:=?_,uniq:=?_ }
 ·obtain ⟨i,hi,rfl⟩:=List.getElem_of_mem ht
  exact (h i hi).gv
 ·refine List.pairwise_iff_getElem.2 fun i j hi hj hij=>(h j hj).nm _ ?_
  have hl:i<(p.types.take j).length:=by rw [List.length_take];omega
  have:=List.getElem_mem hl
  rwa [List.getElem_take] at this
 ·rw [List.pairwise_flatMap]
  refine ⟨fun t ht=>?_,?_⟩
  ·obtain ⟨k,hk,rfl⟩:=List.getElem_of_mem ht
   rw [List.pairwise_map];refine List.pairwise_iff_getElem.2 fun i j hi hj hij e=>(h k hk).dup j hj ⟨k,hk,i,hi,hk,hj,Nat.le_refl _,e,.inr hij⟩
  ·refine List.pairwise_iff_getElem.2 fun i j hi hj hij x hx y hy e=>?_
   obtain ⟨c,hc,rfl⟩:=List.mem_map.1 hx;obtain ⟨d,hd,rfl⟩:=List.mem_map.1 hy;obtain ⟨m,hm,rfl⟩:=List.getElem_of_mem hc;obtain ⟨k,hk,rfl⟩:=List.getElem_of_mem hd;exact (h j hj).dup k hk ⟨i,hi,m,hm,hj,hk,Nat.le_of_lt hij,e,.inl hij⟩
theorem vx{p:MProgram}{l:List MPat}(hz:(yp p l).2=0):Xx p l:=by
 unfold yp at hz
 split at hz
 ·assumption
 ·cases hz
theorem Qa{p:MProgram}{l:List MPat}(hz:(yp p l).2=0)(hsz:cnts (fun q:MPat=>q.nodes.length) l<=1048576):∃ t,uR p.types (xC l) [t]:=by
 have h:=vx hz;have T:=Yb h.prog;have hts:=uz h.pats;have G0:=patsG T (l.map xg) (vC h.pats) none is0;have g1:=G0.ok XC (by show 0+2*_<=_;omega) nofun
 have hc:(xL p.types (l.map xg) none is0).2.code=0:=by
  unfold yp at hz
  rw [if_pos h] at hz
  unfold vg zd at hz
  split at hz
  ·rename_i q;exact absurd hz q
  ·rename_i q;exact Classical.not_not.1 q
 have g:=(g1 hc).g;obtain ⟨-,-,k⟩:=patsT T (l.map xg) (vC h.pats) none is0 XC (by show 0+2*_<=_;omega) nofun hc
 refine ⟨putX (xL p.types (l.map xg) none is0).2.l (xL p.types (l.map xg) none is0).1,fun r hr=>?_⟩
 obtain ⟨t,ht,rfl⟩:=List.mem_map.1 hr;refine ⟨⟨k _ _ g (Ext.refl_of g) t ht,trivial⟩,fun q hq=>?_⟩
 rw [List.mem_singleton] at hq
 rw [hq];exact vC h.pats t ht
theorem row_w{ts:List MType}(t:List TyI):Row ts [yh] [t]:=⟨.any (.inl rfl),trivial⟩
theorem ok_w:okR [yh]:=fun q hq=>by rw [List.mem_singleton] at hq;rw [hq];exact ok_wild
theorem pats_T{p:MProgram}{l:List MPat}(hz:(yp p l).2=0):TysU p.types:=tysU (vx hz).prog ((all_IR (vx hz).prog).1 (vx hz).chk)
theorem cover_eq{p:MProgram}{l:List MPat}(hz:(yp p l).2=0)(hsz:cnts (fun q:MPat=>q.nodes.length) l<=1048576):ZH p l=useS p.types (y9 l) (xC l) [yh]:=by
 obtain ⟨t,h⟩:=Qa hz hsz;exact Z9 (pats_T hz) (y9 l) (xC l) [yh] [t] h (row_w t) ok_w
noncomputable def qO(q:MPat):List D:=[.osl 112 4 [qE (xg q)]]
theorem VN(p:MProgram)(l:List MPat)(ho:p.ok)(hs:p.sm)(hol:∀ q∈l,q.ok)(hsl:smS MPat.sm l)(hsz:cnts (fun q:MPat=>q.nodes.length) l<=1048576):FT 21 [.ag p.enc,.sl 1 (l.map MPat.enc)] (fun r _=>r=.tup [.s (.bool (YS p l).1),.s (.bool (YS p l).2)]):=by
 have hl:=hsl.1;have cp:=YR p l ho hs hol hsl hsz;unfold YS
 by_cases hz:(yp p l).2=0
 ·have h:=vx hz
  have T:=pats_T hz;have hce:=cover_eq hz hsz;obtain ⟨t,hty⟩:=Qa hz hsz;have hts:=uz h.pats;have hrw:=uh l;have hrl:(xC l).length=l.length:=by unfold xC;rw [List.length_map,List.length_map]
  have hu:=FCon.wqs (k:=1) (r:=[]) (ug p T hs.1.1 (fun t ht=>(hs.1.2 t ht).2.1) (y9 l) (xC l) [yh] [t] (by unfold y9;omega) (by unfold y9;rw [xw,xw,show hard yh=0 from by rw [yh,hard,xw];rfl];simp) (by omega) hty (row_w t) ok_w)
  rw [<- hce,show List.replicate 1 wq++([]:List PT).map qE=[[.s (.int .i64 1),.s (.int .i64 0),.s (.string ⟨#[]⟩),.nil]] from rfl,MProgram.enc_eq] at hu
  rw [if_pos hz];rw [hz,MProgram.enc_eq] at cp
  generalize ZH p l=B at *
  refine FI PM Tryz.func21 Tryz.ntmps21 [] rfl rfl ?_
  (have hWf:=w1 @MProgram.enc_eq;repeat' (first|refine zS ?_|refine zI ?_ ?_|refine zX (FCon.noout cp) ?_|((with_reducible apply xc);refine zG (cp) ?_)|exact zF0|refine zD fun hb=>?_|exact zC|refine zT ?_|fail))
  refine xd (fun m' σ=>∃ k:Nat,k<=l.length/\m'=l.length - k/\σ.t 2=.bx 2 0/\σ.b 2=some (.box [.sl 3 (p.types.map MType.enc),.sl 6 (p.nodes.map MNode.enc)])/\σ.t 20=.sl 1 (l.map MPat.enc)/\σ.t 21=.s (.int .i64 l.length)/\σ.t 22=.s (.int .i64 k)/\σ.t 8=.bs 19 1 k/\σ.b 19=some (.arr 110 1 ((l.take k).map qO))) l.length ⟨0,by omega,by omega,?_⟩ ?_
  ·simp only [go_sem,simprocAttr,MProgram.enc_eq,Int.natCast_zero,List.take_zero,List.map_nil,List.length_map]
   all_goals trace_state
  ·rintro m' σ ⟨k,hk,rfl,h2,b2,h20,h21,h22,h8,b19⟩ K' hK
   by_cases hlt:k<l.length
   ·have hmem:=List.getElem_mem hlt
    have hq:=h.pats _ hmem;have hx:=xb MPat.enc l k hlt;have he:=MPat.enc_eq l[k];have hT:=wT hq;have hqs:=(XG hq).2;have cg:=c_l07Of l[k].nodes (by omega) (xg l[k]) 0 hT.at0 hT.ok
    have hlen:((l.take k).map qO).length=k:=by rw [List.length_map,List.length_take];omega
    have happ:(l.take (k+1)).map qO=(l.take k).map qO++[qO l[k]]:=by rw [List.take_succ_eq_append_getElem hlt,List.map_append];rfl
    rw [qO] at happ
    clear hq hT;generalize l[k]=q at *
    have hqe:=wv (xg q);rw [hqe] at cg happ
    (have hWf:=w10 @h2 @b2 @h20 @h21 @h22 @h8 @b19 @hx @he @hlen;repeat' (first|refine zS ?_|refine zI ?_ ?_|refine zK cg ?_|exact zF0|refine zD fun hb=>?_|exact zC|refine zT ?_|fail))
    refine hK (l.length - (k+1)) _ (by omega) ⟨k+1,by omega,rfl,?_⟩
    simp only [go_sem,simprocAttr,h2,b2,h20,h21,h22,h8,b19,hlen,happ,Int.natCast_succ]
    all_goals trace_state
   ·obtain rfl:k=l.length:=by omega
    rw [List.take_length] at b19
    have hlen:(l.map qO).length=l.length:=List.length_map ..;have hfr:xu (l.map qO)=rqsE (xC l):=by
     rw [xI,xC,rqsE,List.map_map,List.map_map,List.map_map];refine List.map_congr_left fun q _=>?_
     show [D.sl 4 (xu [qE (xg q)])]=[D.sl 4 [qE (xg q)]];rw [show [qE (xg q)]=[xg q].map qE from rfl,wV]
    have htk:(l.map qO).take l.length=l.map qO:=by rw [<- hlen,List.take_length]
    (have hWf:=w10 @h2 @b2 @h20 @h21 @h22 @h8 @b19 @hlen @htk @hfr;repeat' (first|refine zS ?_|refine zI ?_ ?_|refine zK hu ?_|exact zF0|refine zD fun hb=>?_|exact zC|refine zT ?_|fail))
    all_goals trace_state
 ·rw [if_neg hz]
  have hz':((yp p l).2 != 0)=true:=by simpa using hz
  rw [MProgram.enc_eq] at cp
  refine FI PM Tryz.func21 Tryz.ntmps21 [] rfl rfl ?_
  (have hWf:=w2 @MProgram.enc_eq @hz';repeat' (first|refine zS ?_|refine zI ?_ ?_|refine zX (FCon.noout cp) ?_|((with_reducible apply xc);refine zG (cp) ?_)|exact zF0|refine zD fun hb=>?_|exact zC|refine zT ?_|fail))
  all_goals trace_state
theorem c_FnExactComplete(p:MProgram)(l:List MPat)(ho:p.ok)(hol:∀ q∈l,q.ok):FT 4 [.ag p.enc,.sl 1 (l.map MPat.enc)] (fun r _=>r=.s (.bool true)):=by
 by_cases hz:p.tot+(l.length+cnts MPat.tot l)<=1048576
 ·have hs:=MProgram.sm_of (x:=p) (by omega)
  have hsl:smS MPat.sm l:=⟨by omega,fun q hq=>MPat.sm_of (by have:=wD (t:=MPat.tot) hq;omega)⟩
  have hsz:cnts (fun q:MPat=>q.nodes.length) l<=1048576:=by have:=Vj l;omega
  have ci:=VL p l ho hs hol hsl hsz;have cs:=VN p l ho hs hol hsl hsz;generalize YS p l=X at *
  obtain ⟨a,b⟩:=X;dsimp only at *
  have tp:=W0 p hs;have tl:=Up l hsl;have ep:=WS p;have el:=Uh l;have ha:(a==a)=true:=beq_self_eq_true a;have hb:(b==b)=true:=beq_self_eq_true b;have ha2:(a != a)=false:=by simp
  have hb2:(b != b)=false:=by simp
  refine FI PM Tryz.func4 Tryz.ntmps4 [(14,3,[],[],(lin [] [0,1,2]))] rfl rfl ?_
  (have hWf:=w8 @MProgram.enc_eq @MProgram.own_eq @xae @UU @ha @hb @ha2 @hb2;repeat' (first|refine zS ?_|refine zI ?_ ?_|((with_reducible apply xc);refine xh (zf p ho 1048576 (by omega) (by omega)) ?_;rintro _ _ ⟨z,rfl,za,zb,zc⟩)|refine zU (zf p ho 1048576 (by omega) (by omega)) ?_|((with_reducible apply xc);refine xh (zJ l hol _ (by omega) (by omega)) ?_;rintro _ _ ⟨y,rfl,ya,yb,yc⟩)|((with_reducible apply xf);refine xe (zJ l hol _ (by omega) (by omega)) ?_)|refine zK tp ?_|refine zK tl ?_|refine zK cs ?_|refine zK ci ?_|refine zK ep ?_|refine zK el ?_|exact zF0|refine zD fun hb=>?_|exact zC|refine zT ?_|fail))
  all_goals trace_state
 ·refine FI PM Tryz.func4 Tryz.ntmps4 [(14,3,[],[],(lin [] [0,1,2]))] rfl rfl ?_
  (have hWf:=w1 @MProgram.enc_eq;repeat' (first|refine zS ?_|refine zI ?_ ?_|((with_reducible apply xc);refine xh (zf p ho 1048576 (by omega) (by omega)) ?_;rintro _ _ ⟨z,rfl,za,zb,zc⟩)|refine zU (zf p ho 1048576 (by omega) (by omega)) ?_|((with_reducible apply xc);refine xh (zJ l hol _ (by omega) (by omega)) ?_;rintro _ _ ⟨y,rfl,ya,yb,yc⟩)|((with_reducible apply xf);refine xe (zJ l hol _ (by omega) (by omega)) ?_)|exact zF0|refine zD fun hb=>?_|exact zC|refine zT ?_|fail))
  all_goals exact absurd (by have:=zc (by omega);have:=yc (by omega);omega) hz
end
section
open Go.RowKit Go.ChangeShapes Go.WideShapes
theorem zk:RdE 3 1 iE I64:=(funext xr ▸ RdE.int Tryz.underlying3 (by kernel_rfl))
theorem Zd:RdE 50 1 (fun l:List Int=>[xV l]) (fun l=>∀ x∈l,I64 x):=RdE.slice Tryz.underlying50 (by kernel_rfl) (by decide) zk
theorem yT:RdE 9 1 (fun s:ByteArray=>[.s (.string s)]) (fun s=>s.size<=maxLen):=RdE.string Tryz.underlying9 (by kernel_rfl)
theorem xbI:RdE 4 1 (fun b:Bool=>[.s (.bool b)]) (fun _=>True):=RdE.bool Tryz.underlying4 (by kernel_rfl)
theorem xcS:RdE 328 3 TyI.enc TyI.ok:=by
 refine ⟨by kernel_rfl,fun H en W n cs x h=>?_⟩
 obtain ⟨hl,m,hf⟩:=z5 Tryz.underlying328 h;rw [show Tryz.prog.cellsOf 328=3 from by kernel_rfl] at hl
 simp only [List.forall_mem_cons,zk.1,yT.1] at hf
 obtain ⟨⟨_,h0⟩,⟨_,h1⟩,⟨_,h2⟩,_⟩:=hf;obtain ⟨a0,r0,o0⟩:=zk.2 _ _ _ _ _ _ h0;obtain ⟨a1,r1,o1⟩:=yT.2 _ _ _ _ _ _ h1;obtain ⟨a2,r2,o2⟩:=zk.2 _ _ _ _ _ _ h2;refine ⟨⟨a0,a1,a2⟩,?_,o0,o1,o2⟩;rw [xr] at r0 r2
 exact (PartsL.cons (k:=1) r0 (PartsL.cons (k:=1) r1 (PartsL.cons (k:=1) r2 (PartsL.nil hl.symm) (by omega)) (by omega)) (by omega)).rep
theorem W9:RdE 266 1 (fun xs:List TyI=>[.sl 3 (xs.map TyI.enc)]) (fun xs=>∀ x∈xs,x.ok):=RdE.slice Tryz.underlying266 (by kernel_rfl) (by decide) xcS
theorem rdE_Ty:RdE 268 1 (fun xs:List TyI=>[.sl 3 (xs.map TyI.enc)]) (fun xs=>∀ x∈xs,x.ok):=by
 refine ⟨by kernel_rfl,fun H en W n cs x h=>?_⟩
 obtain ⟨hl,m,hf⟩:=z5 Tryz.underlying268 h;rw [show Tryz.prog.cellsOf 268=1 from by kernel_rfl] at hl
 simp only [List.forall_mem_cons,W9.1] at hf
 obtain ⟨⟨_,h0⟩,_⟩:=hf;obtain ⟨a0,r0,o0⟩:=W9.2 _ _ _ _ _ _ h0;exact ⟨a0,(PartsL.cons (k:=1) r0 (PartsL.nil hl.symm) (by omega)).rep,o0⟩
theorem rdE_PNode:RdE 213 4 DPNode.enc DPNode.ok:=by
 refine ⟨by kernel_rfl,fun H en W n cs x h=>?_⟩
 obtain ⟨hl,m,hf⟩:=z5 Tryz.underlying213 h;rw [show Tryz.prog.cellsOf 213=4 from by kernel_rfl] at hl
 simp only [List.forall_mem_cons,zk.1,yT.1,Zd.1] at hf
 obtain ⟨⟨_,h0⟩,⟨_,h1⟩,⟨_,h2⟩,⟨_,h3⟩,_⟩:=hf;obtain ⟨a0,r0,o0⟩:=zk.2 _ _ _ _ _ _ h0;obtain ⟨a1,r1,o1⟩:=zk.2 _ _ _ _ _ _ h1;obtain ⟨a2,r2,o2⟩:=yT.2 _ _ _ _ _ _ h2;obtain ⟨a3,r3,o3⟩:=Zd.2 _ _ _ _ _ _ h3;refine ⟨⟨a0,a1,a2,a3⟩,?_,o0,o1,o2,o3⟩;rw [xr] at r0 r1
 exact (PartsL.cons (k:=1) r0 (PartsL.cons (k:=1) r1 (PartsL.cons (k:=1) r2 (PartsL.cons (k:=1) r3 (PartsL.nil hl.symm) (by omega)) (by omega)) (by omega)) (by omega)).rep
theorem Vv:RdE 68 1 (fun xs:List DPNode=>[.sl 4 (xs.map DPNode.enc)]) (fun xs=>∀ x∈xs,x.ok):=RdE.slice Tryz.underlying68 (by kernel_rfl) (by decide) rdE_PNode
theorem rdE_Pat:RdE 70 1 MPat.enc MPat.ok:=by
 refine ⟨by kernel_rfl,fun H en W n cs x h=>?_⟩
 obtain ⟨hl,m,hf⟩:=z5 Tryz.underlying70 h;rw [show Tryz.prog.cellsOf 70=1 from by kernel_rfl] at hl
 simp only [List.forall_mem_cons,Vv.1] at hf
 obtain ⟨⟨_,h0⟩,_⟩:=hf;obtain ⟨a0,r0,o0⟩:=Vv.2 _ _ _ _ _ _ h0;refine ⟨⟨a0⟩,?_,o0⟩;exact (PartsL.cons (k:=1) r0 (PartsL.nil hl.symm) (by omega)).rep
theorem rdE_Pats:RdE 26 1 (fun xs:List MPat=>[.sl 1 (xs.map MPat.enc)]) (fun xs=>∀ x∈xs,x.ok):=RdE.slice Tryz.underlying26 (by kernel_rfl) (by decide) rdE_Pat
theorem rdE_Node:RdE 132 6 MNode.enc MNode.ok:=by
 refine ⟨by kernel_rfl,fun H en W n cs x h=>?_⟩
 obtain ⟨hl,m,hf⟩:=z5 Tryz.underlying132 h;rw [show Tryz.prog.cellsOf 132=6 from by kernel_rfl] at hl
 simp only [List.forall_mem_cons,zk.1,yT.1,Zd.1,rdE_Pats.1] at hf
 obtain ⟨⟨_,h0⟩,⟨_,h1⟩,⟨_,h2⟩,⟨_,h3⟩,⟨_,h4⟩,⟨_,h5⟩,_⟩:=hf;obtain ⟨a0,r0,o0⟩:=zk.2 _ _ _ _ _ _ h0;obtain ⟨a1,r1,o1⟩:=zk.2 _ _ _ _ _ _ h1;obtain ⟨a2,r2,o2⟩:=zk.2 _ _ _ _ _ _ h2;obtain ⟨a3,r3,o3⟩:=yT.2 _ _ _ _ _ _ h3;obtain ⟨a4,r4,o4⟩:=Zd.2 _ _ _ _ _ _ h4;obtain ⟨a5,r5,o5⟩:=rdE_Pats.2 _ _ _ _ _ _ h5;refine ⟨⟨a0,a1,a2,a3,a4,a5⟩,?_,o0,o1,o2,o3,o4,o5⟩;rw [xr] at r0 r1 r2
 exact (PartsL.cons (k:=1) r0 (PartsL.cons (k:=1) r1 (PartsL.cons (k:=1) r2 (PartsL.cons (k:=1) r3 (PartsL.cons (k:=1) r4 (PartsL.cons (k:=1) r5 (PartsL.nil hl.symm) (by omega)) (by omega)) (by omega)) (by omega)) (by omega)) (by omega)).rep
theorem xah:RdE 23 1 (fun xs:List MNode=>[.sl 6 (xs.map MNode.enc)]) (fun xs=>∀ x∈xs,x.ok):=RdE.slice Tryz.underlying23 (by kernel_rfl) (by decide) rdE_Node
theorem rdE_Con:RdE 270 3 MCon.enc MCon.ok:=by
 refine ⟨by kernel_rfl,fun H en W n cs x h=>?_⟩
 obtain ⟨hl,m,hf⟩:=z5 Tryz.underlying270 h;rw [show Tryz.prog.cellsOf 270=3 from by kernel_rfl] at hl
 simp only [List.forall_mem_cons,yT.1,xbI.1,rdE_Ty.1] at hf
 obtain ⟨⟨_,h0⟩,⟨_,h1⟩,⟨_,h2⟩,_⟩:=hf;obtain ⟨a0,r0,o0⟩:=yT.2 _ _ _ _ _ _ h0;obtain ⟨a1,r1,o1⟩:=xbI.2 _ _ _ _ _ _ h1;obtain ⟨a2,r2,o2⟩:=rdE_Ty.2 _ _ _ _ _ _ h2;refine ⟨⟨a0,a1,a2⟩,?_,o0,o1,o2⟩;exact (PartsL.cons (k:=1) r0 (PartsL.cons (k:=1) r1 (PartsL.cons (k:=1) r2 (PartsL.nil hl.symm) (by omega)) (by omega)) (by omega)).rep
theorem xbH:RdE 127 1 (fun xs:List MCon=>[.sl 3 (xs.map MCon.enc)]) (fun xs=>∀ x∈xs,x.ok):=RdE.slice Tryz.underlying127 (by kernel_rfl) (by decide) rdE_Con
theorem rdE_Type:RdE 129 3 MType.enc MType.ok:=by
 refine ⟨by kernel_rfl,fun H en W n cs x h=>?_⟩
 obtain ⟨hl,m,hf⟩:=z5 Tryz.underlying129 h;rw [show Tryz.prog.cellsOf 129=3 from by kernel_rfl] at hl
 simp only [List.forall_mem_cons,yT.1,zk.1,xbH.1] at hf
 obtain ⟨⟨_,h0⟩,⟨_,h1⟩,⟨_,h2⟩,_⟩:=hf;obtain ⟨a0,r0,o0⟩:=yT.2 _ _ _ _ _ _ h0;obtain ⟨a1,r1,o1⟩:=zk.2 _ _ _ _ _ _ h1;obtain ⟨a2,r2,o2⟩:=xbH.2 _ _ _ _ _ _ h2;refine ⟨⟨a0,a1,a2⟩,?_,o0,o1,o2⟩;rw [xr] at r1
 exact (PartsL.cons (k:=1) r0 (PartsL.cons (k:=1) r1 (PartsL.cons (k:=1) r2 (PartsL.nil hl.symm) (by omega)) (by omega)) (by omega)).rep
theorem xai:RdE 22 1 (fun xs:List MType=>[.sl 3 (xs.map MType.enc)]) (fun xs=>∀ x∈xs,x.ok):=RdE.slice Tryz.underlying22 (by kernel_rfl) (by decide) rdE_Type
theorem rdE_Program:RdE 25 2 MProgram.enc MProgram.ok:=by
 refine ⟨by kernel_rfl,fun H en W n cs x h=>?_⟩
 obtain ⟨hl,m,hf⟩:=z5 Tryz.underlying25 h;rw [show Tryz.prog.cellsOf 25=2 from by kernel_rfl] at hl
 simp only [List.forall_mem_cons,xai.1,xah.1] at hf
 obtain ⟨⟨_,h0⟩,⟨_,h1⟩,_⟩:=hf;obtain ⟨a0,r0,o0⟩:=xai.2 _ _ _ _ _ _ h0;obtain ⟨a1,r1,o1⟩:=xah.2 _ _ _ _ _ _ h1;refine ⟨⟨a0,a1⟩,?_,o0,o1⟩;exact (PartsL.cons (k:=1) r0 (PartsL.cons (k:=1) r1 (PartsL.nil hl.symm) (by omega)) (by omega)).rep
end
section
open Go.RowKit Arb
theorem xcI(a b:List (List PT)):x5 (a++b)=x5 a+x5 b:=by unfold x5;rw [List.map_append,List.sum_append]
theorem hardRs_at(rows:List (List PT))(i:Nat)(h:i<rows.length):x5 (rows.take i)+xw rows[i]<=x5 rows:=by
 have e:x5 rows=x5 (rows.take i++rows[i]::rows.drop (i+1)):=by rw [<- List.drop_eq_getElem_cons h,List.take_append_drop]
 rw [e,xcI,zL];omega
theorem uN(l:List MPat):(xC l).length=l.length:=by unfold xC;rw [List.length_map,List.length_map]
theorem XL(l:List MPat)(i:Nat)(h:i<l.length):(xC l)[i]'(by rw [uN];exact h)=[xg l[i]]:=by
 unfold xC;rw [List.getElem_map,List.getElem_map]
noncomputable def Y5(p:MProgram)(l:List MPat)(i:Nat):Bool:=useM p.types (y9 l) ((xC l).take i) ((xC l).getD i [])
noncomputable def x3(p:MProgram)(l:List MPat)(k:Nat):List Int:=((List.range k).filter fun i=>!Y5 p l i).map fun i:Nat=>(i:Int)
theorem less_t{p:MProgram}{l:List MPat}{k:Nat}(h:Y5 p l k=true):x3 p l (k+1)=x3 p l k:=by
 unfold x3;rw [List.range_succ,List.filter_append,List.filter_cons,h];simp
theorem less_f{p:MProgram}{l:List MPat}{k:Nat}(h:Y5 p l k=false):x3 p l (k+1)=x3 p l k++[(k:Int)]:=by
 unfold x3;rw [List.range_succ,List.filter_append,List.filter_cons,h];simp
theorem UB(p:MProgram)(l:List MPat)(k:Nat):(x3 p l k).length<=k:=by
 unfold x3;rw [List.length_map];exact Nat.le_trans (List.length_filter_le _ _) (by rw [List.length_range];exact Nat.le_refl _)
theorem xbv{p:MProgram}{l:List MPat}{i:Nat}(h:i<l.length):Y5 p l i=useM p.types (y9 l) ((xC l).take i) [xg l[i]]:=by
 unfold Y5;rw [List.getD_eq_getElem?_getD,List.getElem?_eq_getElem (by rw [uN];exact h),Option.getD_some,XL l i h]
theorem Rk_at{l:List MPat}(hl:l.length<=3000000)(hp:∀ q∈l,patM q.nodes=true){i:Nat}(h:i<l.length):Rk ((xC l).take i) [xg l[i]]:=by
 have R:=Rk_rows hl hp;refine ⟨fun r hr=>R.w r (List.mem_of_mem_take hr),fun r hr q hq=>R.k r (List.mem_of_mem_take hr) q hq,fun q hq=>?_,?_⟩
 ·have hm:[xg l[i]]∈xC l:=by rw [<- XL l i h];exact List.getElem_mem _
  exact R.k _ hm q hq
 ·rw [List.length_take];have:=R.n;omega
theorem fuel_at(l:List MPat){i:Nat}(h:i<l.length):2*(x5 ((xC l).take i)+xw [xg l[i]])+1<y9 l:=by
 have:=hardRs_at (xC l) i (by rw [uN];exact h)
 rw [XL l i h] at this
 unfold y9;omega
theorem Uk(p:MProgram)(l:List MPat)(ho:p.ok)(hs:p.sm)(hol:∀ q∈l,q.ok)(hsl:smS MPat.sm l)(hsz:cnts (fun q:MPat=>q.nodes.length) l<=1048576)(hz:(yp p l).2=0):FT 24 [.ag p.enc,.sl 1 (l.map MPat.enc)] (fun r _=>r=.tup [.osl 3 1 ((x3 p l l.length).map iE),.s (.bool true)]):=by
 have hl:=hsl.1;have cp:=YN p l ho hs hol hsl hsz;have h:=vx hz;have hts:=uz h.pats;have hrw:=uh l;have hro:=xa0 l (by omega) h.pats
 have hrl:=y6 (xC l);rw [uN] at hrl
 rw [hz] at cp
 refine FI PM Tryz.func24 Tryz.ntmps24 [] rfl rfl ?_
 (have hWf:=w1 @MProgram.enc_eq;repeat' (first|refine zS ?_|refine zI ?_ ?_|refine zX (FCon.noout cp) ?_|((with_reducible apply xc);refine zG (cp) ?_)|refine zX (FCon.noout hro) ?_|((with_reducible apply xc);refine zG (hro) ?_)|exact zF0|refine zD fun hb=>?_|exact zC|refine zT ?_|fail))
 refine xd (fun m' σ=>∃ k:Nat,k<=l.length/\m'=l.length - k/\σ.t 8=.bx 24 0/\σ.b 24=some (.box [.sl 3 (p.types.map MType.enc)])/\σ.t 9=.sl 1 (rwsE (xC l))/\σ.t 28=.sl 1 (rwsE (xC l))/\σ.t 29=.s (.int .i64 l.length)/\σ.t 30=.s (.int .i64 k)/\σ.t 10=.bs 27 1 (x3 p l k).length/\σ.b 27=some (.arr 3 1 ((x3 p l k).map iE))) l.length ⟨0,by omega,by omega,?_⟩ ?_
 ·rw [show x3 p l 0=[] from rfl]
  simp only [go_sem,simprocAttr,MProgram.enc_eq,hrl,Int.natCast_zero,List.map_nil,List.length_nil]
  all_goals trace_state
 ·rintro m' σ ⟨k,hk,rfl,h8,b24,h9,h28,h29,h30,h10,b27⟩ K' hK
  by_cases hlt:k<l.length
  ·have hx:=xb rowE (xC l) k (by rw [uN];exact hlt)
   rw [XL l k hlt] at hx
   rw [show (xC l).map rowE=rwsE (xC l) from rfl,show rowE [xg l[k]]=[.sl 1 ([xg l[k]].map pxS)] from rfl] at hx
   have htk:(rwsE (xC l)).take k=rwsE ((xC l).take k):=by unfold rwsE;rw [List.map_take]
   have hu:=Xz p.types hs.1.1 (fun t ht=>(hs.1.2 t ht).2.1) (y9 l) ((xC l).take k) [xg l[k]] (by unfold y9;omega) (fuel_at l hlt) (Rk_at (by omega) h.pats hlt)
   rw [<- xbv (p:=p) hlt] at hu
   have hll:=UB p l k;have hlm:((x3 p l k).map iE).length=(x3 p l k).length:=List.length_map ..;cases eu:Y5 p l k with
   | true=>
    rw [eu] at hu
    have ht:=less_t eu;generalize [xg l[k]].map pxS=row at *
    (have hWf:=w10 @h8 @b24 @h9 @h28 @h29 @h30 @h10 @b27 @hx (ai @htk<|ai @hrl<|@hlm);repeat' (first|refine zS ?_|refine zI ?_ ?_|refine zK hu ?_|exact zF0|refine zD fun hb=>?_|exact zC|refine zT ?_|fail))
    refine hK (l.length - (k+1)) _ (by omega) ⟨k+1,by omega,rfl,?_⟩
    rw [ht];simp only [go_sem,simprocAttr,h8,b24,h9,h28,h29,h30,h10,b27,Int.natCast_succ]
    all_goals trace_state
   | false=>
    rw [eu] at hu
    have ht:=less_f eu;generalize [xg l[k]].map pxS=row at *
    (have hWf:=w10 @h8 @b24 @h9 @h28 @h29 @h30 @h10 @b27 @hx (ai @htk<|ai @hrl<|@hlm);repeat' (first|refine zS ?_|refine zI ?_ ?_|refine zK hu ?_|exact zF0|refine zD fun hb=>?_|exact zC|refine zT ?_|fail))
    refine hK (l.length - (k+1)) _ (by omega) ⟨k+1,by omega,rfl,?_⟩
    rw [ht,List.length_append,List.length_singleton,List.map_append];simp only [go_sem,simprocAttr,h8,b24,h9,h28,h29,h30,h10,b27,hlm,xr,Int.natCast_succ]
    all_goals trace_state
  ·obtain rfl:k=l.length:=by omega
   have hlm:((x3 p l l.length).map iE).length=(x3 p l l.length).length:=List.length_map ..;have htk:((x3 p l l.length).map iE).take (x3 p l l.length).length=(x3 p l l.length).map iE:=by rw [<- hlm,List.take_length]
   (have hWf:=w10 @h8 @b24 @h9 @h28 @h29 @h30 @h10 @b27 @hlm @htk;repeat' (first|refine zS ?_|refine zI ?_ ?_|exact zF0|refine zD fun hb=>?_|exact zC|refine zT ?_|fail))
   all_goals trace_state
theorem Uj(p:MProgram)(l:List MPat)(ho:p.ok)(hs:p.sm)(hol:∀ q∈l,q.ok)(hsl:smS MPat.sm l)(hsz:cnts (fun q:MPat=>q.nodes.length) l<=1048576)(hz:¬ (yp p l).2=0):FT 24 [.ag p.enc,.sl 1 (l.map MPat.enc)] (fun r _=>r=.tup [.nil,.s (.bool false)]):=by
 have cp:=YN p l ho hs hol hsl hsz;have hz':((yp p l).2 != 0)=true:=by simpa using hz
 refine FI PM Tryz.func24 Tryz.ntmps24 [] rfl rfl ?_
 (have hWf:=w2 @MProgram.enc_eq @hz';repeat' (first|refine zS ?_|refine zI ?_ ?_|refine zX (FCon.noout cp) ?_|((with_reducible apply xc);refine zG (cp) ?_)|exact zF0|refine zD fun hb=>?_|exact zC|refine zT ?_|fail))
 all_goals trace_state
theorem qOs_frz(l:List MPat)(k:Nat):xu ((l.take k).map qO)=rqsE ((xC l).take k):=by
 rw [xI,xC,rqsE,<- List.map_take,<- List.map_take,List.map_map,List.map_map,List.map_map];refine List.map_congr_left fun q _=>?_
 show [D.sl 4 (xu [qE (xg q)])]=[D.sl 4 [qE (xg q)]];rw [show [qE (xg q)]=[xg q].map qE from rfl,wV]
theorem Vw{p:MProgram}{l:List MPat}{t:List TyI}(h:uR p.types (xC l) [t])(k:Nat):uR p.types ((xC l).take k) [t]:=fun r hr=>h r (List.mem_of_mem_take hr)
theorem Yd{p:MProgram}{l:List MPat}{t:List TyI}(h:uR p.types (xC l) [t]){k:Nat}(hk:k<l.length):Row p.types [xg l[k]] [t]/\okR [xg l[k]]:=
 h _ (by rw [<- XL l k hk];exact List.getElem_mem _)
theorem VP(p:MProgram)(l:List MPat)(ho:p.ok)(hs:p.sm)(hol:∀ q∈l,q.ok)(hsl:smS MPat.sm l)(hsz:cnts (fun q:MPat=>q.nodes.length) l<=1048576)(hz:(yp p l).2=0):FT 23 [.ag p.enc,.sl 1 (l.map MPat.enc)] (fun r _=>r=.tup [.osl 3 1 ((x3 p l l.length).map iE),.s (.bool true)]):=by
 have hl:=hsl.1;have cp:=YR p l ho hs hol hsl hsz;have h:=vx hz;have T:=pats_T hz;obtain ⟨t,hty⟩:=Qa hz hsz;have hts:=uz h.pats;have hrw:=uh l;rw [hz,MProgram.enc_eq] at cp
 refine FI PM Tryz.func23 Tryz.ntmps23 [] rfl rfl ?_
 (have hWf:=w1 @MProgram.enc_eq;repeat' (first|refine zS ?_|refine zI ?_ ?_|refine zX (FCon.noout cp) ?_|((with_reducible apply xc);refine zG (cp) ?_)|exact zF0|refine zD fun hb=>?_|exact zC|refine zT ?_|fail))
 refine xd (fun m' σ=>∃ k:Nat,k<=l.length/\m'=l.length - k/\σ.t 2=.bx 2 0/\σ.b 2=some (.box [.sl 3 (p.types.map MType.enc),.sl 6 (p.nodes.map MNode.enc)])/\σ.t 23=.sl 1 (l.map MPat.enc)/\σ.t 24=.s (.int .i64 l.length)/\σ.t 25=.s (.int .i64 k)/\σ.t 8=.bs 21 1 (x3 p l k).length/\σ.b 21=some (.arr 3 1 ((x3 p l k).map iE))/\σ.t 9=.bs 22 1 k/\σ.b 22=some (.arr 110 1 ((l.take k).map qO))) l.length ⟨0,by omega,by omega,?_⟩ ?_
 ·rw [show x3 p l 0=[] from rfl]
  simp only [go_sem,simprocAttr,MProgram.enc_eq,Int.natCast_zero,List.take_zero,List.map_nil,List.length_map,List.length_nil]
  all_goals trace_state
 ·rintro m' σ ⟨k,hk,rfl,h2,b2,h23,h24,h25,h8,b21,h9,b22⟩ K' hK
  by_cases hlt:k<l.length
  ·have hmem:=List.getElem_mem hlt
   have hq:=h.pats _ hmem;have hx:=xb MPat.enc l k hlt;have he:=MPat.enc_eq l[k];have hT:=wT hq;have hqs:=(XG hq).2;have cg:=c_l07Of l[k].nodes (by omega) (xg l[k]) 0 hT.at0 hT.ok
   have hlen:((l.take k).map qO).length=k:=by rw [List.length_map,List.length_take];omega
   have hfr:=qOs_frz l k;have htk:((l.take k).map qO).take k=(l.take k).map qO:=by rw [List.take_of_length_le (by omega)]
   have happ:(l.take (k+1)).map qO=(l.take k).map qO++[qO l[k]]:=by rw [List.take_succ_eq_append_getElem hlt,List.map_append];rfl
   rw [qO] at happ
   have hu:=ug p T hs.1.1 (fun t ht=>(hs.1.2 t ht).2.1) (y9 l) ((xC l).take k) [xg l[k]] [t] (by unfold y9;omega) (fuel_at l hlt) (by rw [List.length_take,uN];omega) (Vw hty k) (Yd hty hlt).1 (Yd hty hlt).2
   rw [<- Z9 T (y9 l) _ _ [t] (Vw hty k) (Yd hty hlt).1 (Yd hty hlt).2,<- xbv (p:=p) hlt,MProgram.enc_eq,List.map_cons,List.map_nil] at hu
   have hll:=UB p l k;have hlm:((x3 p l k).map iE).length=(x3 p l k).length:=List.length_map ..;have hqe:=wv (xg l[k]);rw [hqe] at cg happ hu
   clear hq hT;cases eu:Y5 p l k with
   | true=>
    have ht:=less_t eu;rw [eu] at hu
    (have hWf:=w10 @h2 @b2 @h23 @h24 @h25 @h8 @b21 @h9 @b22 (ai @hx<|ai @he<|ai @hlen<|ai @htk<|ai @hfr<|@hlm);repeat' (first|refine zS ?_|refine zI ?_ ?_|refine zK cg ?_|refine zK hu ?_|exact zF0|refine zD fun hb=>?_|exact zC|refine zT ?_|fail))
    refine hK (l.length - (k+1)) _ (by omega) ⟨k+1,by omega,rfl,?_⟩
    rw [ht];simp only [go_sem,simprocAttr,h2,b2,h23,h24,h25,h8,b21,h9,b22,hlen,happ,Int.natCast_succ]
    all_goals trace_state
   | false=>
    have ht:=less_f eu;rw [eu] at hu
    (have hWf:=w10 @h2 @b2 @h23 @h24 @h25 @h8 @b21 @h9 @b22 (ai @hx<|ai @he<|ai @hlen<|ai @htk<|ai @hfr<|@hlm);repeat' (first|refine zS ?_|refine zI ?_ ?_|refine zK cg ?_|refine zK hu ?_|exact zF0|refine zD fun hb=>?_|exact zC|refine zT ?_|fail))
    refine hK (l.length - (k+1)) _ (by omega) ⟨k+1,by omega,rfl,?_⟩
    rw [ht,List.length_append,List.length_singleton,List.map_append];simp only [go_sem,simprocAttr,h2,b2,h23,h24,h25,h8,b21,h9,b22,hlen,hlm,happ,xr,Int.natCast_succ]
    all_goals trace_state
  ·obtain rfl:k=l.length:=by omega
   have hlm:((x3 p l l.length).map iE).length=(x3 p l l.length).length:=List.length_map ..;have htk:((x3 p l l.length).map iE).take (x3 p l l.length).length=(x3 p l l.length).map iE:=by rw [<- hlm,List.take_length]
   (have hWf:=w10 @h2 @b2 @h23 @h24 @h25 @h8 @b21 @h9 @b22 (ai @hlm<|@htk);repeat' (first|refine zS ?_|refine zI ?_ ?_|exact zF0|refine zD fun hb=>?_|exact zC|refine zT ?_|fail))
   all_goals trace_state
theorem Uo(p:MProgram)(l:List MPat)(ho:p.ok)(hs:p.sm)(hol:∀ q∈l,q.ok)(hsl:smS MPat.sm l)(hsz:cnts (fun q:MPat=>q.nodes.length) l<=1048576)(hz:(yp p l).2=0):FT 23 [.ag p.enc,.sl 1 (l.map MPat.enc)] (fun r _=>r=.tup [.sl 1 ((x3 p l l.length).map iE),.s (.bool true)]):=
 FCon.ice ((VP p l ho hs hol hsl hsz hz).mono fun r _ e=>by
  subst e;show D.tup [D.sl 1 (xu _),D.s _]=_;rw [iE_frzS])
theorem Un(p:MProgram)(l:List MPat)(ho:p.ok)(hs:p.sm)(hol:∀ q∈l,q.ok)(hsl:smS MPat.sm l)(hsz:cnts (fun q:MPat=>q.nodes.length) l<=1048576)(hz:¬ (yp p l).2=0):FT 23 [.ag p.enc,.sl 1 (l.map MPat.enc)] (fun r _=>r=.tup [.nil,.s (.bool false)]):=by
 have cp:=YR p l ho hs hol hsl hsz;have hz':((yp p l).2 != 0)=true:=by simpa using hz
 rw [MProgram.enc_eq] at cp
 refine FI PM Tryz.func23 Tryz.ntmps23 [] rfl rfl ?_
 (have hWf:=w2 @MProgram.enc_eq @hz';repeat' (first|refine zS ?_|refine zI ?_ ?_|refine zX (FCon.noout cp) ?_|((with_reducible apply xc);refine zG (cp) ?_)|exact zF0|refine zD fun hb=>?_|exact zC|refine zT ?_|fail))
 all_goals trace_state
noncomputable def unX(p:MProgram)(l:List MPat):List Int×Bool:=if (yp p l).2=0 then (x3 p l l.length,true) else ([],false)
theorem unX_len(p:MProgram)(l:List MPat):(unX p l).1.length<=l.length:=by
 unfold unX;split
 ·exact UB p l _
 ·exact Nat.zero_le _
theorem xay(p:MProgram)(l:List MPat)(ho:p.ok)(hs:p.sm)(hol:∀ q∈l,q.ok)(hsl:smS MPat.sm l)(hsz:cnts (fun q:MPat=>q.nodes.length) l<=1048576):FT 24 [.ag p.enc,.sl 1 (l.map MPat.enc)] (fun r _=>r=.tup [.osl 3 1 ((unX p l).1.map iE),.s (.bool (unX p l).2)]):=by
 unfold unX
 by_cases hz:(yp p l).2=0
 ·rw [if_pos hz];exact Uk p l ho hs hol hsl hsz hz
 ·rw [if_neg hz];exact (Uj p l ho hs hol hsl hsz hz).tupO
theorem xaB(p:MProgram)(l:List MPat)(ho:p.ok)(hs:p.sm)(hol:∀ q∈l,q.ok)(hsl:smS MPat.sm l)(hsz:cnts (fun q:MPat=>q.nodes.length) l<=1048576):FT 23 [.ag p.enc,.sl 1 (l.map MPat.enc)] (fun r _=>r=.tup [.sl 1 ((unX p l).1.map iE),.s (.bool (unX p l).2)]):=by
 unfold unX
 by_cases hz:(yp p l).2=0
 ·rw [if_pos hz];exact Uo p l ho hs hol hsl hsz hz
 ·rw [if_neg hz];exact (Un p l ho hs hol hsl hsz hz).tupS
theorem c_FnExactUseless(p:MProgram)(l:List MPat)(ho:p.ok)(hol:∀ q∈l,q.ok):FT 5 [.ag p.enc,.sl 1 (l.map MPat.enc)] (fun r _=>r=.s (.bool true)):=by
 by_cases hz:p.tot+(l.length+cnts MPat.tot l)<=1048576
 ·have hs:=MProgram.sm_of (x:=p) (by omega)
  have hsl:smS MPat.sm l:=⟨by omega,fun q hq=>MPat.sm_of (by have:=wD (t:=MPat.tot) hq;omega)⟩
  have hsz:cnts (fun q:MPat=>q.nodes.length) l<=1048576:=by have:=Vj l;omega
  have hpc:=MProgram.cnt_le p;have hlc:=cnts_pcnt l;have ci:=xay p l ho hs hol hsl hsz;have cs:=xaB p l ho hs hol hsl hsz;have hul:=unX_len p l;generalize unX p l=X at *
  obtain ⟨xs,b⟩:=X;dsimp only at *
  have hb:(b==b)=true:=beq_self_eq_true b;have hb2:(b != b)=false:=by simp
  have hc2:cnts (fun _:Int=>1) xs=1*xs.length:=Xe (fun _=>rfl) _
  have tp:=W0 p hs;have tl:=Up l hsl;have ep:=WS p;have el:=Uh l;have et:=Ug xs;have mp:=xaz p hs 1 (by omega) (by omega)
  have ml:=YQ l hsl (1+(p.cnt:Nat)) (by omega) (by omega)
  have mt:=uX xs (by omega) 1 (by omega) (by omega)
  have ht:=xcq xs (by omega) 1 (by omega) (by omega)
  refine FI PM Tryz.func5 Tryz.ntmps5 [(14,3,[],[],(lin [] [0,1,2]))] rfl rfl ?_
  (have hWf:=w8 @MProgram.enc_eq @MProgram.own_eq @MProgram.mark_eq @xk @xae @UU @hb @hb2;repeat' (first|refine zS ?_|refine zI ?_ ?_|((with_reducible apply xc);refine xh (zf p ho 1048576 (by omega) (by omega)) ?_;rintro _ _ ⟨z,rfl,za,zb,zc⟩)|refine zU (zf p ho 1048576 (by omega) (by omega)) ?_|((with_reducible apply xc);refine xh (zJ l hol _ (by omega) (by omega)) ?_;rintro _ _ ⟨y,rfl,ya,yb,yc⟩)|((with_reducible apply xf);refine xe (zJ l hol _ (by omega) (by omega)) ?_)|refine zK tp ?_|refine zK tl ?_|refine zK cs ?_|refine zK ci ?_|refine zK et ?_|refine zK ep ?_|refine zK el ?_|refine zH mp ?_|refine zH ml ?_|refine zH mt ?_|refine zK ht ?_|exact zF0|refine zD fun hb=>?_|exact zC|refine zT ?_|fail))
  all_goals trace_state
 ·refine FI PM Tryz.func5 Tryz.ntmps5 [(14,3,[],[],(lin [] [0,1,2]))] rfl rfl ?_
  (have hWf:=w1 @MProgram.enc_eq;repeat' (first|refine zS ?_|refine zI ?_ ?_|((with_reducible apply xc);refine xh (zf p ho 1048576 (by omega) (by omega)) ?_;rintro _ _ ⟨z,rfl,za,zb,zc⟩)|refine zU (zf p ho 1048576 (by omega) (by omega)) ?_|((with_reducible apply xc);refine xh (zJ l hol _ (by omega) (by omega)) ?_;rintro _ _ ⟨y,rfl,ya,yb,yc⟩)|((with_reducible apply xf);refine xe (zJ l hol _ (by omega) (by omega)) ?_)|exact zF0|refine zD fun hb=>?_|exact zC|refine zT ?_|fail))
  all_goals exact absurd (by have:=zc (by omega);have:=yc (by omega);omega) hz
end
end Go.Proofs.YtmnokalddmlogaaGreat
