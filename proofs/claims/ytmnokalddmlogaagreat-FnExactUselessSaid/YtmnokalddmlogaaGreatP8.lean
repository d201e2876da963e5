/- Parts of the proof. -/
import Derived.Test.YtmnokalddmlogaaGreatP7
set_option linter.unusedSimpArgs false
set_option linter.unusedVariables false
set_option maxRecDepth 100000
set_option maxHeartbeats 8000000
namespace Go.Proofs.YtmnokalddmlogaaGreat
section
open Go.RowKit
theorem Uf(xs:List MType)(f:FuncId)(caps:List D)(hm:PM.md f=[])(p:MType->Bool)(hf:∀ x∈xs,FT f (.ag x.enc::caps) (fun r _=>r=.s (.bool (p x)))) :
  FT 141 [.sl 3 (xs.map MType.enc),.fn f caps] (fun r _=>r=.s (.int .i64 (fidx p xs))):=by
 refine FI PM Tryz.func141 Tryz.ntmps141 [] rfl rfl ?_;refine yr 0 rfl trivial fun hlen=>?_
 simp only [List.length_map] at hlen
 (have hWf:=f0;repeat' (first|refine zS ?_|refine zI ?_ ?_|exact zF0|refine zD fun hb=>?_|exact zC|refine zT ?_|fail))
 refine xd (fun n σ=>∃ k:Nat,k<=xs.length/\n=xs.length - k/\σ.t 0=.sl 3 (xs.map MType.enc)/\σ.t 1=.fn f caps/\σ.t 7=.s (.int .i64 xs.length)/\σ.t 8=.s (.int .i64 k)/\∀ x∈xs.take k,p x=false) xs.length ⟨0,by omega,by omega,?_⟩ ?_
 ·simp only [go_sem,simprocAttr,Int.natCast_zero]
  all_goals simp
 ·rintro n σ ⟨k,hk,rfl,h0,h1,h7,h8,hno⟩ K' hK
  by_cases hlt:k<xs.length
  ·have hx:=xb MType.enc xs k hlt
   have he:=MType.enc_eq xs[k];have hc:=hf xs[k] (List.getElem_mem hlt);rw [he] at hc
   cases hp:p xs[k] with
   | true=>
    rw [hp] at hc
    (have hWf:=w7 @h0 @h1 @h7 @h8 @hx @he @hm;repeat' (first|refine zS ?_|refine zI ?_ ?_|refine zK hc ?_|exact zF0|refine zD fun hb=>?_|exact zC|refine zT ?_|fail))
    all_goals exact xq (uF p xs k hlt hno hp).symm
   | false=>
    rw [hp] at hc
    (have hWf:=w7 @h0 @h1 @h7 @h8 @hx @he @hm;repeat' (first|refine zS ?_|refine zI ?_ ?_|refine zK hc ?_|exact zF0|refine zD fun hb=>?_|exact zC|refine zT ?_|fail))
    refine hK (xs.length - (k+1)) _ (by omega) ⟨k+1,by omega,rfl,?_⟩
    simp only [go_sem,simprocAttr,h0,h1,h7,Int.natCast_succ];exact uf hlt hno hp
  ·obtain rfl:k=xs.length:=by omega
   (have hWf:=w4 @h0 @h1 @h7 @h8;repeat' (first|refine zS ?_|refine zI ?_ ?_|exact zF0|refine zD fun hb=>?_|exact zC|refine zT ?_|fail))
   exact xq (uG p xs (by simpa using hno)).symm
theorem zm(xs:List MType)(f:FuncId)(caps:List D)(hm:PM.md f=[])(p:MType->Bool)(hf:∀ x∈xs,FT f (.ag x.enc::caps) (fun r _=>r=.s (.bool (p x)))) :
  FT 87 [.sl 3 (xs.map MType.enc),.fn f caps] (fun r _=>r=.s (.bool (xs.any p))):=by
 refine FI PM Tryz.func87 Tryz.ntmps87 [] rfl rfl ?_
 (have hWf:=f0;repeat' (first|refine zS ?_|refine zI ?_ ?_|refine zK (Uf xs f caps hm p hf) ?_|exact zF0|refine zD fun hb=>?_|exact zC|refine zT ?_|fail))
 exact sB (uv p xs)
theorem U9(xs:List MPat)(f:FuncId)(caps:List D)(hm:PM.md f=[])(p:MPat->Bool)(hf:∀ x∈xs,FT f (.ag x.enc::caps) (fun r _=>r=.s (.bool (p x)))) :
  FT 93 [.sl 1 (xs.map MPat.enc),.fn f caps] (fun r _=>r=.s (.int .i64 (fidx p xs))):=by
 refine FI PM Tryz.func93 Tryz.ntmps93 [] rfl rfl ?_;refine yr 0 rfl trivial fun hlen=>?_
 simp only [List.length_map] at hlen
 (have hWf:=f0;repeat' (first|refine zS ?_|refine zI ?_ ?_|exact zF0|refine zD fun hb=>?_|exact zC|refine zT ?_|fail))
 refine xd (fun n σ=>∃ k:Nat,k<=xs.length/\n=xs.length - k/\σ.t 0=.sl 1 (xs.map MPat.enc)/\σ.t 1=.fn f caps/\σ.t 7=.s (.int .i64 xs.length)/\σ.t 8=.s (.int .i64 k)/\∀ x∈xs.take k,p x=false) xs.length ⟨0,by omega,by omega,?_⟩ ?_
 ·simp only [go_sem,simprocAttr,Int.natCast_zero]
  all_goals simp
 ·rintro n σ ⟨k,hk,rfl,h0,h1,h7,h8,hno⟩ K' hK
  by_cases hlt:k<xs.length
  ·have hx:=xb MPat.enc xs k hlt
   have he:=MPat.enc_eq xs[k];have hc:=hf xs[k] (List.getElem_mem hlt);rw [he] at hc
   cases hp:p xs[k] with
   | true=>
    rw [hp] at hc
    (have hWf:=w7 @h0 @h1 @h7 @h8 @hx @he @hm;repeat' (first|refine zS ?_|refine zI ?_ ?_|refine zK hc ?_|exact zF0|refine zD fun hb=>?_|exact zC|refine zT ?_|fail))
    all_goals exact xq (uF p xs k hlt hno hp).symm
   | false=>
    rw [hp] at hc
    (have hWf:=w7 @h0 @h1 @h7 @h8 @hx @he @hm;repeat' (first|refine zS ?_|refine zI ?_ ?_|refine zK hc ?_|exact zF0|refine zD fun hb=>?_|exact zC|refine zT ?_|fail))
    refine hK (xs.length - (k+1)) _ (by omega) ⟨k+1,by omega,rfl,?_⟩
    simp only [go_sem,simprocAttr,h0,h1,h7,Int.natCast_succ];exact uf hlt hno hp
  ·obtain rfl:k=xs.length:=by omega
   (have hWf:=w4 @h0 @h1 @h7 @h8;repeat' (first|refine zS ?_|refine zI ?_ ?_|exact zF0|refine zD fun hb=>?_|exact zC|refine zT ?_|fail))
   exact xq (uG p xs (by simpa using hno)).symm
theorem wA(xs:List MPat)(f:FuncId)(caps:List D)(hm:PM.md f=[])(p:MPat->Bool)(hf:∀ x∈xs,FT f (.ag x.enc::caps) (fun r _=>r=.s (.bool (p x)))) :
  FT 44 [.sl 1 (xs.map MPat.enc),.fn f caps] (fun r _=>r=.s (.bool (xs.any p))):=by
 refine FI PM Tryz.func44 Tryz.ntmps44 [] rfl rfl ?_
 (have hWf:=f0;repeat' (first|refine zS ?_|refine zI ?_ ?_|refine zK (U9 xs f caps hm p hf) ?_|exact zF0|refine zD fun hb=>?_|exact zC|refine zT ?_|fail))
 exact sB (uv p xs)
def uj(p:MProgram)(nb:MNode->Bool):Bool:=!(!(decide (1<=(p.nodes.length:Int))&&decide ((p.nodes.length:Int)<=600))||decide (8<(p.types.length:Int)))&&xZ (xU p.nodes)&&(p.nodes.all fun n=>yj p.nodes n (nb n))&&p.types.all yI
theorem xcY{p:MProgram}{nb:MNode->Bool}(h:((p.nodes.length:Int)<1\/600<(p.nodes.length:Int))\/8<(p.types.length:Int)):uj p nb=false:=by
 unfold uj;rcases h with (h|h)|h
 ·rw [decide_eq_false (by omega:¬ 1<=(p.nodes.length:Int))];simp
 ·rw [decide_eq_false (by omega:¬ (p.nodes.length:Int)<=600)];simp
 ·rw [decide_eq_true h];simp
theorem xcZ{p:MProgram}{nb:MNode->Bool}(h:xZ (xU p.nodes)=false):uj p nb=false:=by unfold uj;rw [h];simp
theorem shapeI_ok{p:MProgram}{nb:MNode->Bool}(h1:1<=(p.nodes.length:Int))(h2:(p.nodes.length:Int)<=600)(h3:(p.types.length:Int)<=8)(h:xZ (xU p.nodes)=true):uj p nb=((p.nodes.all fun n=>yj p.nodes n (nb n))&&p.types.all yI):=by
 unfold uj;rw [h,decide_eq_true h1,decide_eq_true h2,decide_eq_false (by omega:¬ 8<(p.types.length:Int))];simp
theorem Vf(t:MType)(ho:t.ok)(hs:t.sm):FT 184 [.ag t.enc] (fun r _=>r=.s (.bool (!yI t))):=by
 have h:=c_typeOk t ho hs;rw [MType.enc_eq] at h
 refine FI PM Tryz.func184 Tryz.ntmps184 [] rfl rfl ?_
 (have hWf:=w1 @MType.enc_eq;repeat' (first|refine zS ?_|refine zI ?_ ?_|refine zK h ?_|exact zF0|refine zD fun hb=>?_|exact zC|refine zT ?_|fail))
theorem c_progOk1(n:MNode)(ho:n.ok):FT 138 [.ag n.enc] (fun r _=>r=.s (.bool (yd n))):=by
 refine FI PM Tryz.func138 Tryz.ntmps138 [] rfl rfl ?_
 (have hWf:=w1 @MNode.enc_eq;repeat' (first|refine zS ?_|refine zI ?_ ?_|refine zK (wB n.s ho.2.2.2.1) ?_|exact zF0|refine zD fun hb=>?_|exact zC|refine zT ?_|fail))
 all_goals
  refine sB ?_;unfold yd
  first|rfl|(congr 1;rw [Bool.eq_iff_iff];simp)
theorem c_progOk2(q:MPat)(ho:q.ok)(hs:q.sm):FT 140 [.ag q.enc] (fun r _=>r=.s (.bool (!patM q.nodes))):=by
 refine FI PM Tryz.func140 Tryz.ntmps140 [] rfl rfl ?_
 (have hWf:=w1 @MPat.enc_eq;repeat' (first|refine zS ?_|refine zI ?_ ?_|refine zK (WT q.nodes ho hs) ?_|exact zF0|refine zD fun hb=>?_|exact zC|refine zT ?_|fail))
theorem node_kid{p:MProgram}(hor:xZ (xU p.nodes)=true){k:Nat}(hlk:k<p.nodes.length)(h0:0<p.nodes[k].kids.length):∃ q:Nat,p.nodes[k].kids[0]=(q:Int)/\q<p.nodes.length:=by
 unfold xZ at hor
 have he:pEnd (xU p.nodes) (xU p.nodes).length 0=some (xU p.nodes).length:=by simpa using hor
 have hlen:(xU p.nodes).length=p.nodes.length:=by simp
 have:=Y7 (xU p.nodes) _ _ _ he k (by rw [hlen];exact hlk) (Nat.zero_le _) (by rw [hlen];exact hlk) (p.nodes[k].kids[0]) (by simp [xU])
 rw [hlen] at this
 exact this
theorem c_shapeOk(p:MProgram)(ho:p.ok)(hs:p.sm)(f:FuncId)(caps:List D)(hm:PM.md f=[])(nb:MNode->Bool)(hf:∀ n∈p.nodes,FT f (.ag n.enc::caps) (fun r _=>r=.s (.bool (nb n)))) :
  FT 137 [.ag p.enc,.fn f caps] (fun r _=>r=.s (.bool (uj p nb))):=by
 obtain ⟨o1,o2⟩:=ho;obtain ⟨s1,s2⟩:=hs;have hln:=s2.1;have hlt:=s1.1;have hkl:∀ x∈p.nodes,x.kids.length<=1000000000:=fun x hx=>by have:=(s2.2 x hx).2.1.1;omega
 have hio:=xcr p o2 (by omega) hkl
 rw [MProgram.enc_eq] at hio
 refine FI PM Tryz.func137 Tryz.ntmps137 [] rfl rfl ?_
 (refine xj ?_;simp only [go_sem,simprocAttr,MProgram.enc_eq];(have hWf:=w1 @MProgram.enc_eq;repeat' (first|refine zY ?_|refine zI ?_ ?_|exact zF1|refine zD fun hb=>?_|exact zC|refine zT ?_|fail)))
 refine y8 2 (.box [.sl 3 (p.types.map MType.enc),.sl 6 (p.nodes.map MNode.enc)]) (by simp only [go_sem,simprocAttr,MProgram.enc_eq]) rfl ?_
 (have hWf:=w1 @MProgram.enc_eq;repeat' (first|refine zS ?_|refine zI ?_ ?_|refine zK (yy p.nodes.length 1 600) ?_|refine zK hio ?_|exact zF0|refine zD fun hb=>?_|exact zC|refine zT ?_|fail))
 ·exact sB (xcY (by omega)).symm
 ·exact sB (xcZ (by first|exact hb|exact hb.symm)).symm
 ·rename_i hb1
  have hor:xZ (xU p.nodes)=true:=by first|exact hb|exact hb.symm
  rw [shapeI_ok (by omega) (by omega) (by omega) hor]
  refine xd (fun n σ=>∃ k:Nat,k<=p.nodes.length/\n=p.nodes.length - k/\σ.t 1=.fn f caps/\σ.t 2=.pt [.sl 3 (p.types.map MType.enc),.sl 6 (p.nodes.map MNode.enc)]/\σ.t 25=.sl 6 (p.nodes.map MNode.enc)/\σ.t 26=.s (.int .i64 p.nodes.length)/\σ.t 27=.s (.int .i64 k)/\∀ x∈p.nodes.take k,yj p.nodes x (nb x)=true) p.nodes.length ⟨0,by omega,by omega,?_⟩ ?_
  ·simp only [go_sem,simprocAttr,MProgram.enc_eq,Int.natCast_zero]
   all_goals simp
  ·rintro n σ ⟨k,hk,rfl,h1,h2,h25,h26,h27,hno⟩ K' hK
   by_cases hlk:k<p.nodes.length
   ·have hx:=xb MNode.enc p.nodes k hlk
    have he:=MNode.enc_eq p.nodes[k];have hmem:=List.getElem_mem hlk;have hc:=c_nodeOk p p.nodes[k] (o2 _ hmem) (s2.2 _ hmem).2.2.1 (by have:=(s2.2 _ hmem).2.1.1;omega) f caps hm (nb p.nodes[k]) (hf _ hmem) (node_kid hor hlk)
    rw [MProgram.enc_eq,MNode.enc_eq] at hc
    cases hq:yj p.nodes p.nodes[k] (nb p.nodes[k]) with
    | false=>
     rw [hq] at hc
     (have hWf:=w7 @h1 @h2 @h25 @h26 @h27 @hx @he;repeat' (first|refine zS ?_|refine zI ?_ ?_|refine zK hc ?_|exact zF0|refine zD fun hb=>?_|exact zC|refine zT ?_|fail))
     rw [yZ (p:=fun n=>yj p.nodes n (nb n)) hlk hq];rfl
    | true=>
     rw [hq] at hc
     (have hWf:=w7 @h1 @h2 @h25 @h26 @h27 @hx @he;repeat' (first|refine zS ?_|refine zI ?_ ?_|refine zK hc ?_|exact zF0|refine zD fun hb=>?_|exact zC|refine zT ?_|fail))
     refine hK (p.nodes.length - (k+1)) _ (by omega) ⟨k+1,by omega,rfl,?_⟩
     simp only [go_sem,simprocAttr,h1,h2,h25,h26,h27,Int.natCast_succ];exact xS hlk hno hq
   ·obtain rfl:k=p.nodes.length:=by omega
    (have hWf:=w5 @h1 @h2 @h25 @h26 @h27;repeat' (first|refine zS ?_|refine zI ?_ ?_|((with_reducible apply xc);refine zG (zm p.types _ [] rfl (fun t=>!yI t) (fun t ht=>Vf t (o1 t ht) (s1.2 t ht))) ?_)|((with_reducible apply xf);refine xe (zm p.types _ [] rfl (fun t=>!yI t) (fun t ht=>Vf t (o1 t ht) (s1.2 t ht))) ?_)|exact zF0|refine zD fun hb=>?_|exact zC|refine zT ?_|fail))
    rw [x8 (p:=fun n=>yj p.nodes n (nb n)) hno]
    rw [show p.types.all yI=!p.types.any fun t=>!yI t by rw [List.not_any_eq_all_not];simp]
    rfl
def progI(p:MProgram):Bool:=uj p yd&&p.nodes.all fun n=>n.pats.all fun q=>patM q.nodes
theorem Ui(p:MProgram)(ho:p.ok)(hs:p.sm):FT 86 [.ag p.enc] (fun r _=>r=.s (.bool (progI p))):=by
 have hss:=c_shapeOk p ho hs 138 [] rfl yd (fun n hn=>c_progOk1 n (ho.2 n hn))
 rw [MProgram.enc_eq] at hss
 obtain ⟨o1,o2⟩:=ho;obtain ⟨s1,s2⟩:=hs;have hln:=s2.1;unfold progI;cases hsh:uj p yd with
 | false=>
  rw [hsh] at hss
  refine FI PM Tryz.func86 Tryz.ntmps86 [] rfl rfl ?_
  (have hWf:=w1 @MProgram.enc_eq;repeat' (first|refine zS ?_|refine zI ?_ ?_|refine zK hss ?_|exact zF0|refine zD fun hb=>?_|exact zC|refine zT ?_|fail))
  all_goals rfl
 | true=>
  rw [hsh] at hss
  refine FI PM Tryz.func86 Tryz.ntmps86 [] rfl rfl ?_
  (have hWf:=w1 @MProgram.enc_eq;repeat' (first|refine zS ?_|refine zI ?_ ?_|refine zK hss ?_|exact zF0|refine zD fun hb=>?_|exact zC|refine zT ?_|fail))
  refine xd (fun n σ=>∃ k:Nat,k<=p.nodes.length/\n=p.nodes.length - k/\σ.t 9=.sl 6 (p.nodes.map MNode.enc)/\σ.t 10=.s (.int .i64 p.nodes.length)/\σ.t 11=.s (.int .i64 k)/\∀ x∈p.nodes.take k,(x.pats.all fun q=>patM q.nodes)=true) p.nodes.length ⟨0,by omega,by omega,?_⟩ ?_
  ·simp only [go_sem,simprocAttr,MProgram.enc_eq,Int.natCast_zero]
   all_goals simp
  ·rintro n σ ⟨k,hk,rfl,h9,h10,h11,hno⟩ K' hK
   by_cases hlk:k<p.nodes.length
   ·have hx:=xb MNode.enc p.nodes k hlk
    have he:=MNode.enc_eq p.nodes[k];have hmem:=List.getElem_mem hlk;have ho':=(o2 _ hmem).2.2.2.2.2;have hs':=(s2.2 _ hmem).2.2;have hna:(p.nodes[k].pats.all fun q=>patM q.nodes)=!p.nodes[k].pats.any fun q=>!patM q.nodes:=by rw [List.not_any_eq_all_not];simp
    have hcf:=wA p.nodes[k].pats 140 [] rfl (fun q=>!patM q.nodes) (fun q hq=>c_progOk2 q (ho' q hq) (hs'.2 q hq))
    cases hq:(p.nodes[k].pats.any fun q=>!patM q.nodes) with
    | true=>
     rw [hq] at hcf hna
     (have hWf:=w5 @h9 @h10 @h11 @hx @he;repeat' (first|refine zS ?_|refine zI ?_ ?_|refine zK hcf ?_|exact zF0|refine zD fun hb=>?_|exact zC|refine zT ?_|fail))
     rw [yZ (p:=fun n:MNode=>n.pats.all fun q=>patM q.nodes) hlk hna]
    | false=>
     rw [hq] at hcf hna
     (have hWf:=w5 @h9 @h10 @h11 @hx @he;repeat' (first|refine zS ?_|refine zI ?_ ?_|refine zK hcf ?_|exact zF0|refine zD fun hb=>?_|exact zC|refine zT ?_|fail))
     refine hK (p.nodes.length - (k+1)) _ (by omega) ⟨k+1,by omega,rfl,?_⟩
     simp only [go_sem,simprocAttr,h9,h10,h11,Int.natCast_succ];exact xS hlk hno hna
   ·obtain rfl:k=p.nodes.length:=by omega
    (have hWf:=w3 @h9 @h10 @h11;repeat' (first|refine zS ?_|refine zI ?_ ?_|exact zF0|refine zD fun hb=>?_|exact zC|refine zT ?_|fail))
    rw [x8 (p:=fun n:MNode=>n.pats.all fun q=>patM q.nodes) hno]
theorem order_in{p:MProgram}(h:xZ (xU p.nodes)=true):∀ n∈p.nodes,inB p.nodes n.kids=true:=by
 intro n hn;obtain ⟨k,hk,rfl⟩:=List.getElem_of_mem hn;unfold xZ at h
 have he:pEnd (xU p.nodes) (xU p.nodes).length 0=some (xU p.nodes).length:=by simpa using h
 have hlen:(xU p.nodes).length=p.nodes.length:=by simp
 refine List.all_eq_true.2 fun z hz=>?_
 obtain ⟨q,rfl,hq⟩:=Y7 (xU p.nodes) _ _ _ he k (by rw [hlen];exact hk) (Nat.zero_le _) (by rw [hlen];exact hk) z (by simpa [xU] using hz)
 rw [hlen] at hq
 rw [decide_eq_true (by omega),decide_eq_true (by omega)];rfl
theorem progI_eq(p:MProgram):progI p=yq p:=by
 unfold progI yq uj;cases ho:xZ (xU p.nodes) with
 | false=>simp
 | true=>
  have hin:=order_in ho;have h1:p.nodes.all (x4 p.nodes)=((p.nodes.all fun n=>yj p.nodes n (yd n))&&p.nodes.all fun n=>n.pats.all fun q=>patM q.nodes):=by
   rw [Bool.eq_iff_iff];simp only [Bool.and_eq_true,List.all_eq_true]
   constructor
   ·intro h
    refine ⟨fun n hn=>?_,fun n hn=>?_⟩
    ·have:=h n hn
     unfold x4 at this
     simp only [Bool.and_eq_true] at this
     exact this.1.2
    ·have:=h n hn
     unfold x4 at this
     simp only [Bool.and_eq_true,List.all_eq_true] at this
     exact this.2
   ·intro ⟨h1,h2⟩ n hn
    unfold x4;simp only [Bool.and_eq_true,List.all_eq_true];exact ⟨⟨hin n hn,h1 n hn⟩,h2 n hn⟩
  rw [h1];have h2:(!(!(decide (1<=(p.nodes.length:Int))&&decide ((p.nodes.length:Int)<=600))||decide (8<(p.types.length:Int))))=(decide (1<=p.nodes.length)&&decide (p.nodes.length<=600)&&decide (p.types.length<=8)):=by
   rw [Bool.eq_iff_iff];simp only [Bool.not_eq_true',Bool.or_eq_false_iff,Bool.not_eq_false',Bool.and_eq_true,decide_eq_true_eq,decide_eq_false_iff_not];omega
  rw [h2];cases decide (1<=p.nodes.length)<;>cases decide (p.nodes.length<=600)<;>cases decide (p.types.length<=8)<;>cases (p.nodes.all fun n=>yj p.nodes n (yd n))<;>cases (p.types.all yI)<;>simp
theorem XV(p:MProgram)(ho:p.ok)(hs:p.sm):FT 86 [.ag p.enc] (fun r _=>r=.s (.bool (yq p))):=by
 rw [<- progI_eq];exact Ui p ho hs
theorem c_l04NEnd(p:MProgram)(ho:∀ x∈p.nodes,x.ok)(hl:p.nodes.length<=1000000000)(hks:∀ x∈p.nodes,x.kids.length<=1000000000) :
  ∀ (N m:Nat),p.nodes.length - m<=N->m<=2000000000->FT 128 [.ag p.enc,.s (.int .i64 m)] (fun r _=>r=.s (.int .i64 (endZ (pEnd (xU p.nodes) N m)))):=by
 have hlen:(xU p.nodes).length=p.nodes.length:=by simp
 have out:∀ (N m:Nat),p.nodes.length<=m->m<=2000000000->FT 128 [.ag p.enc,.s (.int .i64 m)] (fun r _=>r=.s (.int .i64 (endZ (pEnd (xU p.nodes) N m)))):=by
  intro N m hm hm2;rw [XF _ _ _ (by rw [hlen];exact hm)]
  refine FI PM Tryz.func128 Tryz.ntmps128 [] rfl rfl ?_
  (have hWf:=w1 @MProgram.enc_eq;repeat' (first|refine zS ?_|refine zI ?_ ?_|exact zF0|refine zD fun hb=>?_|exact zC|refine zT ?_|fail))
  all_goals (try rfl)
 intro N
 induction N with
 | zero=>intro m hm hm2;exact out 0 m (by omega) hm2
 | succ N ih=>
  intro m hm hm2
  by_cases hlt:m<p.nodes.length
  ·have hx:=xb MNode.enc p.nodes m hlt
   have he:=MNode.enc_eq p.nodes[m];have hkl:=hks _ (List.getElem_mem hlt);rw [YA _ _ _ (by rw [hlen];exact hlt)]
   have hka:(xU p.nodes)[m]'(by rw [hlen];exact hlt)=p.nodes[m].kids:=by simp [xU]
   rw [hka];obtain ⟨R,hR⟩:∃ R,y4 (pEnd (xU p.nodes) N) p.nodes[m].kids (m+1)=R:=⟨_,rfl⟩;rw [hR];refine FI PM Tryz.func128 Tryz.ntmps128 [] rfl rfl ?_
   (have hWf:=w3 @MProgram.enc_eq @hx @he;repeat' (first|refine zS ?_|refine zI ?_ ?_|exact zF0|refine zD fun hb=>?_|exact zC|refine zT ?_|fail))
   refine xd (fun n σ=>∃ j cur:Nat,j<=p.nodes[m].kids.length/\n=p.nodes[m].kids.length - j/\m<cur/\cur<=2000000000/\y4 (pEnd (xU p.nodes) N) (p.nodes[m].kids.drop j) cur=R/\σ.t 2=.bx 2 0/\σ.b 2=some (.box [.sl 3 (p.types.map MType.enc),.sl 6 (p.nodes.map MNode.enc)])/\σ.t 5=.s (.int .i64 cur)/\σ.t 20=xV p.nodes[m].kids/\σ.t 21=.s (.int .i64 p.nodes[m].kids.length)/\σ.t 22=.s (.int .i64 j)) p.nodes[m].kids.length ⟨0,m+1,by omega,by omega,by omega,by omega,by rw [List.drop_zero];exact hR,?_⟩ ?_
   ·simp only [go_sem,simprocAttr,MProgram.enc_eq,Int.natCast_succ]
    all_goals simp
   ·rintro n σ ⟨j,cur,hj,rfl,hcur,hc2,hp,h2,hb2,h5,h20,h21,h22⟩ K' hK
    by_cases hjl:j<p.nodes[m].kids.length
    ·have gx:=xb iE p.nodes[m].kids j hjl
     rw [ZI _ j hjl,ve] at hp
     by_cases hkc:p.nodes[m].kids[j]=(cur:Int)
     ·have hw:yx (xU p.nodes) N p.nodes[m].kids[j] cur=pEnd (xU p.nodes) N cur:=by unfold yx;rw [if_pos hkc]
      rw [hw] at hp
      have hkn:((cur:Int) != (cur:Int))=false:=bne_self_eq_false _;have hcc:=ih cur (by omega) hc2
      cases hq:pEnd (xU p.nodes) N cur with
      | none=>
       rw [hq] at hcc hp
       have hcc:FT 128 [.ag [.sl 3 (p.types.map MType.enc),.sl 6 (p.nodes.map MNode.enc)],.s (.int .i64 cur)] (fun r _=>r=.s (.int .i64 (-1))):=hcc
       (have hWf:=w10 @h2 @hb2 @h5 @h20 @h21 @h22 @gx @xr @hkc (ai @hkn<|@MProgram.enc_eq);repeat' (first|refine zS ?_|refine zI ?_ ?_|refine zK hcc ?_|exact zF0|refine zD fun hb=>?_|exact zC|refine zT ?_|fail))
       all_goals (rw [<- hp];rfl)
      | some e1=>
       rw [hq] at hcc hp
       have hcc:FT 128 [.ag [.sl 3 (p.types.map MType.enc),.sl 6 (p.nodes.map MNode.enc)],.s (.int .i64 cur)] (fun r _=>r=.s (.int .i64 (e1:Int))):=hcc
       have hbd:=YB _ _ _ _ hq;rw [hlen] at hbd
       (have hWf:=w10 @h2 @hb2 @h5 @h20 @h21 @h22 @gx @xr @hkc (ai @hkn<|@MProgram.enc_eq);repeat' (first|refine zS ?_|refine zI ?_ ?_|refine zK hcc ?_|exact zF0|refine zD fun hb=>?_|exact zC|refine zT ?_|fail))
       refine hK (p.nodes[m].kids.length - (j+1)) _ (by omega) ⟨j+1,e1,by omega,rfl,by omega,by omega,hp,?_⟩
       simp only [go_sem,simprocAttr,h2,hb2,h5,h20,h21,h22,Int.natCast_succ]
       all_goals simp
     ·have hw:yx (xU p.nodes) N p.nodes[m].kids[j] cur=none:=by unfold yx;rw [if_neg hkc]
      rw [hw] at hp
      have hne:(p.nodes[m].kids[j] != (cur:Int))=true:=by simpa using hkc
      (have hWf:=w10 @h2 @hb2 @h5 @h20 @h21 @h22 @gx @xr @hne @MProgram.enc_eq;repeat' (first|refine zS ?_|refine zI ?_ ?_|exact zF0|refine zD fun hb=>?_|exact zC|refine zT ?_|fail))
      all_goals (rw [<- hp];rfl)
    ·obtain rfl:j=p.nodes[m].kids.length:=by omega
     rw [List.drop_eq_nil_of_le (Nat.le_refl _)] at hp
     (have hWf:=w6 @h2 @hb2 @h5 @h20 @h21 @h22;repeat' (first|refine zS ?_|refine zI ?_ ?_|exact zF0|refine zD fun hb=>?_|exact zC|refine zT ?_|fail))
     rw [<- hp];rfl
  ·exact out (N+1) m (by omega) hm2
theorem c_l04Node(p:MProgram)(x:MNode)(ho:x.ok)(hs:x.sm):FT 127 [.ag p.enc,.ag x.enc] (fun r _=>r=.s (.bool (x4 p.nodes x))):=by
 obtain ⟨kind,at_,n,s,kids,pats⟩:=x;obtain ⟨o1,o2,o3,o4,o5,o6⟩:=ho;obtain ⟨s1,s2,s3⟩:=hs
 by_cases hkd:kind<1\/19<kind
 ·have hm:x4 p.nodes ⟨kind,at_,n,s,kids,pats⟩=false:=by
   have g:xQ p.nodes ⟨kind,at_,n,s,kids,pats⟩ (yd ⟨kind,at_,n,s,kids,pats⟩)=false:=by
    unfold xQ;simp only
    repeat' split
    all_goals first
     | omega
     | (rcases hkd with q|q
        ·rw [decide_eq_false (by omega:¬ 1<=kind)];rfl
        ·rw [decide_eq_false (by omega:¬ kind<=19)];simp)
   unfold x4 yj;rw [g];simp
  rw [hm];rcases hkd with hkd|hkd
  ·have h1:decide (kind<1)=true:=decide_eq_true hkd
   refine FI PM Tryz.func127 Tryz.ntmps127 [(15,26,[],[],(lin [] [0,1,2,3,4,5,6,7,8,9,10,11,12,13,14,15,16,17,18,19,20,21,22,23,24,25])),(24,15,[],[],(lin [] [0,1,2,3,4,5,6,7,8,9,10,11,12,13,14])),(26,11,[],[],(lin [] [0,1,2,3,4,5,6,7,8,9,10]))] rfl rfl ?_
   (have hWf:=w3 @MNode.enc_eq @MProgram.enc_eq @h1;repeat' (first|refine zS ?_|refine zI ?_ ?_|exact zF0|refine zD fun hb=>?_|exact zC|refine zT ?_|fail))
   all_goals (first|(done)|(exfalso;simp_all;omega)|trace_state)
  ·have h1:decide (kind<1)=false:=decide_eq_false (by omega)
   have h2:decide (kind>19)=true:=decide_eq_true hkd;refine FI PM Tryz.func127 Tryz.ntmps127 [(15,26,[],[],(lin [] [0,1,2,3,4,5,6,7,8,9,10,11,12,13,14,15,16,17,18,19,20,21,22,23,24,25])),(24,15,[],[],(lin [] [0,1,2,3,4,5,6,7,8,9,10,11,12,13,14])),(26,11,[],[],(lin [] [0,1,2,3,4,5,6,7,8,9,10]))] rfl rfl ?_
   (have hWf:=w4 @MNode.enc_eq @MProgram.enc_eq @h1 @h2;repeat' (first|refine zS ?_|refine zI ?_ ?_|exact zF0|refine zD fun hb=>?_|exact zC|refine zT ?_|fail))
   all_goals (first|(done)|(exfalso;simp_all;omega)|trace_state)
 ·rcases (show kind=1\/kind=2\/kind=3\/kind=4\/kind=5\/kind=6\/kind=7\/kind=8\/kind=9\/kind=10\/kind=11\/kind=12\/kind=13\/kind=14\/kind=15\/kind=16\/kind=17\/kind=18\/kind=19 by omega) with rfl|rfl|rfl|rfl|rfl|rfl|rfl|rfl|rfl|rfl|rfl|rfl|rfl|rfl|rfl|rfl|rfl|rfl|rfl
  ·exact ZR p 1 (.inl ⟨rfl,by decide⟩) at_ n s kids pats s2.1 s3.1 o4 o6 s3
  ·exact ZR p 2 (.inr (.inl ⟨rfl,by decide⟩)) at_ n s kids pats s2.1 s3.1 o4 o6 s3
  ·exact ZR p 3 (.inr (.inr (⟨rfl,by decide⟩))) at_ n s kids pats s2.1 s3.1 o4 o6 s3
  ·exact l04Node_4 p 4 (⟨rfl,by decide⟩) at_ n s kids pats s2.1 s3.1 o4 o6 s3
  ·exact ZS p 5 (.inl ⟨rfl,by decide⟩) at_ n s kids pats s2.1 s3.1 o4 o6 s3
  ·exact ZT p 6 (.inl ⟨rfl,by decide⟩) at_ n s kids pats s2.1 s3.1 o4 o6 s3
  ·exact ZS p 7 (.inr (.inl ⟨rfl,by decide⟩)) at_ n s kids pats s2.1 s3.1 o4 o6 s3
  ·exact l04Node_8 p 8 (⟨rfl,by decide⟩) at_ n s kids pats s2.1 s3.1 o4 o6 s3
  ·exact ZT p 9 (.inr (.inl ⟨rfl,by decide⟩)) at_ n s kids pats s2.1 s3.1 o4 o6 s3
  ·exact ZT p 10 (.inr (.inr (⟨rfl,by decide⟩))) at_ n s kids pats s2.1 s3.1 o4 o6 s3
  ·exact ZU p 11 (.inl ⟨rfl,by decide⟩) at_ n s kids pats s2.1 s3.1 o4 o6 s3
  ·exact ZU p 12 (.inr (.inl ⟨rfl,by decide⟩)) at_ n s kids pats s2.1 s3.1 o4 o6 s3
  ·exact xcL p 13 (⟨rfl,by decide⟩) at_ n s kids pats s2.1 s3.1 o4 o6 s3
  ·exact ZU p 14 (.inr (.inr (⟨rfl,by decide⟩))) at_ n s kids pats s2.1 s3.1 o4 o6 s3
  ·exact ZS p 15 (.inr (.inr (⟨rfl,by decide⟩))) at_ n s kids pats s2.1 s3.1 o4 o6 s3
  ·exact Q2 p 16 (.inl ⟨rfl,by decide⟩) at_ n s kids pats s2.1 s3.1 o4 o6 s3
  ·exact Q2 p 17 (.inr (⟨rfl,by decide⟩)) at_ n s kids pats s2.1 s3.1 o4 o6 s3
  ·exact Q3 p 18 (.inl ⟨rfl,by decide⟩) at_ n s kids pats s2.1 s3.1 o4 o6 s3
  ·exact Q3 p 19 (.inr (⟨rfl,by decide⟩)) at_ n s kids pats s2.1 s3.1 o4 o6 s3
theorem headM{p:MProgram}(h:((p.nodes.length:Int)<1\/600<(p.nodes.length:Int))\/8<(p.types.length:Int)):yq p=false:=by
 unfold yq;rcases h with (h|h)|h
 ·rw [decide_eq_false (by omega:¬ 1<=p.nodes.length)];rfl
 ·rw [decide_eq_false (by omega:¬ p.nodes.length<=600)];simp
 ·rw [decide_eq_false (by omega:¬ p.types.length<=8)];simp
theorem headM_ok{p:MProgram}(h:(1<=(p.nodes.length:Int)/\(p.nodes.length:Int)<=600)/\(p.types.length:Int)<=8):yq p=(p.types.all yI&&p.nodes.all (x4 p.nodes)&&xZ (xU p.nodes)):=by
 unfold yq;rw [decide_eq_true (by omega:1<=p.nodes.length),decide_eq_true (by omega:p.nodes.length<=600),decide_eq_true (by omega:p.types.length<=8)]
 rfl
theorem typeS_bad{t:MType}(h:(((yn t.name=false\/t.params<0)\/2<t.params)\/(t.cons.length:Int)<1)\/8<(t.cons.length:Int)):yI t=false:=xaq (by
 rcases h with (((h|h)|h)|h)|h
 ·exact .inl (.inl h)
 ·exact .inl (.inr (.inl h))
 ·exact .inl (.inr (.inr h))
 ·exact .inr (.inl h)
 ·exact .inr (.inr h))
theorem typeS_ok{t:MType}(h:(((yn t.name=true/\0<=t.params)/\t.params<=2)/\1<=(t.cons.length:Int))/\(t.cons.length:Int)<=8):yI t=t.cons.all (ye t.params):=xbS ⟨⟨h.1.1.1.1,h.1.1.1.2,h.1.1.2⟩,h.1.2,h.2⟩
theorem XX(p:MProgram)(ho:p.ok)(hs:p.sm):FT 70 [.ag p.enc] (fun r _=>r=.s (.bool (yq p))):=by
 obtain ⟨o1,o2⟩:=ho;obtain ⟨s1,s2⟩:=hs;have hln:=s2.1;have hlt:=s1.1;have hkl:∀ x∈p.nodes,x.kids.length<=1000000000:=fun x hx=>by have:=(s2.2 x hx).2.1.1;omega
 refine FI PM Tryz.func70 Tryz.ntmps70 [(21,5,[],[],(lin [] [0,1,2,3,4]))] rfl rfl ?_
 (have hWf:=w1 @MProgram.enc_eq;repeat' (first|refine zS ?_|refine zI ?_ ?_|exact zF0|refine zD fun hb=>?_|exact zC|refine zT ?_|fail))
 ·rw [headM hb]
 ·rw [headM_ok hb]
  refine xd (fun n σ=>∃ k:Nat,k<=p.types.length/\n=p.types.length - k/\σ.t 1=.bx 1 0/\σ.b 1=some (.box [.sl 3 (p.types.map MType.enc),.sl 6 (p.nodes.map MNode.enc)])/\σ.t 26=.sl 3 (p.types.map MType.enc)/\σ.t 27=.s (.int .i64 p.types.length)/\σ.t 28=.s (.int .i64 k)/\∀ x∈p.types.take k,yI x=true) p.types.length ⟨0,by omega,by omega,?_⟩ ?_
  ·simp only [go_sem,simprocAttr,MProgram.enc_eq,Int.natCast_succ,Int.natCast_zero]
   all_goals simp
  ·rintro n σ ⟨k,hk,rfl,h1,hb1,h26,h27,h28,hno⟩ K' hK
   by_cases hlk:k<p.types.length
   ·have hx:=xb MType.enc p.types k hlk
    have he:=MType.enc_eq p.types[k];have hok:=o1 _ (List.getElem_mem hlk);have hsm:=s1.2 _ (List.getElem_mem hlk);have hcl:=hsm.2.1
    (have hWf:=w7 @h1 @hb1 @h26 @h27 @h28 @hx @he;repeat' (first|refine zS ?_|refine zI ?_ ?_|refine zK (xJ p.types[k].name hok.1) ?_|exact zF0|refine zD fun hb=>?_|exact zC|refine zT ?_|fail))
    ·rw [yZ hlk (typeS_bad hb)];rfl
    ·have hto:=typeS_ok hb
     refine xd (fun n σ=>∃ j:Nat,j<=p.types[k].cons.length/\n=p.types[k].cons.length - j/\σ.t 1=.bx 1 0/\σ.b 1=some (.box [.sl 3 (p.types.map MType.enc),.sl 6 (p.nodes.map MNode.enc)])/\σ.t 26=.sl 3 (p.types.map MType.enc)/\σ.t 27=.s (.int .i64 p.types.length)/\σ.t 28=.s (.int .i64 k) /\
      σ.t 4=.bx 4 0/\σ.b 4=some (.box [.s (.string p.types[k].name),.s (.int .i64 p.types[k].params),.sl 3 (p.types[k].cons.map MCon.enc)])/\σ.t 59=.sl 3 (p.types[k].cons.map MCon.enc)/\σ.t 60=.s (.int .i64 p.types[k].cons.length)/\σ.t 61=.s (.int .i64 j)/\∀ c∈p.types[k].cons.take j,ye p.types[k].params c=true) p.types[k].cons.length ⟨0,by omega,by omega,?_⟩ ?_
     ·simp only [go_sem,simprocAttr,h1,hb1,h26,h27,h28,Int.natCast_succ,Int.natCast_zero]
      all_goals simp
     ·rintro n σ ⟨j,hj,rfl,g1,gb1,g26,g27,g28,g4,gb4,g59,g60,g61,hno2⟩ K'' hK''
      by_cases hlj:j<p.types[k].cons.length
      ·have gx:=xb MCon.enc p.types[k].cons j hlj
       have ge:=MCon.enc_eq p.types[k].cons[j];have hcn:=c_l04Con p.types[k].cons[j] p.types[k].params (hok.2.2 _ (List.getElem_mem hlj)) (hsm.2.2 _ (List.getElem_mem hlj));rw [ge] at hcn
       cases hq:ye p.types[k].params p.types[k].cons[j] with
       | false=>
        rw [hq] at hcn
        (have hWf:=w10 @g1 @gb1 @g26 @g27 @g28 @g4 @gb4 @g59 @g60 (ai @g61<|ai @gx<|@ge);repeat' (first|refine zS ?_|refine zI ?_ ?_|refine zK hcn ?_|exact zF0|refine zD fun hb=>?_|exact zC|refine zT ?_|fail))
        rw [yZ hlk (by rw [hto];exact yZ hlj hq)];rfl
       | true=>
        rw [hq] at hcn
        (have hWf:=w10 @g1 @gb1 @g26 @g27 @g28 @g4 @gb4 @g59 @g60 (ai @g61<|ai @gx<|@ge);repeat' (first|refine zS ?_|refine zI ?_ ?_|refine zK hcn ?_|exact zF0|refine zD fun hb=>?_|exact zC|refine zT ?_|fail))
        refine hK'' (p.types[k].cons.length - (j+1)) _ (by omega) ⟨j+1,by omega,rfl,?_⟩
        simp only [go_sem,simprocAttr,g1,gb1,g26,g27,g28,g4,gb4,g59,g60,Int.natCast_succ];exact xS hlj hno2 hq
      ·obtain rfl:j=p.types[k].cons.length:=by omega
       (have hWf:=w8 @g1 @gb1 @g26 @g27 @g28 @g59 @g60 @g61;repeat' (first|refine zS ?_|refine zI ?_ ?_|exact zF0|refine zD fun hb=>?_|exact zC|refine zT ?_|fail))
       refine hK (p.types.length - (k+1)) _ (by omega) ⟨k+1,by omega,rfl,?_⟩
       simp only [go_sem,simprocAttr,g1,gb1,g26,g27,g28,Int.natCast_succ,Int.natCast_zero];exact xS hlk hno (by rw [hto];exact x8 hno2)
   ·obtain rfl:k=p.types.length:=by omega
    have hty:=x8 hno;rw [hty,Bool.true_and];clear hK
    (have hWf:=w5 @h1 @hb1 @h26 @h27 @h28;repeat' (first|refine zS ?_|refine zI ?_ ?_|exact zF0|refine zD fun hb=>?_|exact zC|refine zT ?_|fail))
    refine xd (fun n σ=>∃ k:Nat,k<=p.nodes.length/\n=p.nodes.length - k/\σ.t 1=.bx 1 0/\σ.b 1=some (.box [.sl 3 (p.types.map MType.enc),.sl 6 (p.nodes.map MNode.enc)])/\σ.t 73=.sl 6 (p.nodes.map MNode.enc)/\σ.t 74=.s (.int .i64 p.nodes.length)/\σ.t 75=.s (.int .i64 k)/\∀ x∈p.nodes.take k,x4 p.nodes x=true) p.nodes.length ⟨0,by omega,by omega,?_⟩ ?_
    ·simp only [go_sem,simprocAttr,h1,hb1,Int.natCast_succ,Int.natCast_zero]
     all_goals simp
    ·rintro n σ ⟨k,hk,rfl,g1,gb1,g73,g74,g75,hno2⟩ K'' hK''
     by_cases hlj:k<p.nodes.length
     ·have gx:=xb MNode.enc p.nodes k hlj
      have ge:=MNode.enc_eq p.nodes[k];have hcn:=c_l04Node p p.nodes[k] (o2 _ (List.getElem_mem hlj)) (s2.2 _ (List.getElem_mem hlj));rw [ge,MProgram.enc_eq] at hcn
      cases hq:x4 p.nodes p.nodes[k] with
      | false=>
       rw [hq] at hcn
       (have hWf:=w7 @g1 @gb1 @g73 @g74 @g75 @gx @ge;repeat' (first|refine zS ?_|refine zI ?_ ?_|refine zK hcn ?_|exact zF0|refine zD fun hb=>?_|exact zC|refine zT ?_|fail))
       rw [yZ hlj hq];rfl
      | true=>
       rw [hq] at hcn
       (have hWf:=w7 @g1 @gb1 @g73 @g74 @g75 @gx @ge;repeat' (first|refine zS ?_|refine zI ?_ ?_|refine zK hcn ?_|exact zF0|refine zD fun hb=>?_|exact zC|refine zT ?_|fail))
       refine hK'' (p.nodes.length - (k+1)) _ (by omega) ⟨k+1,by omega,rfl,?_⟩
       simp only [go_sem,simprocAttr,g1,gb1,g73,g74,Int.natCast_succ];exact xS hlj hno2 hq
     ·obtain rfl:k=p.nodes.length:=by omega
      rw [x8 hno2,Bool.true_and];have hcc:=c_l04NEnd p o2 (by omega) hkl p.nodes.length 0 (by omega) (by omega)
      have hor:xZ (xU p.nodes)=(endZ (pEnd (xU p.nodes) p.nodes.length 0)==(p.nodes.length:Int)):=by
       rw [Uv];unfold xZ;rw [show (xU p.nodes).length=p.nodes.length by simp]
      have hcc:FT 128 [.ag [.sl 3 (p.types.map MType.enc),.sl 6 (p.nodes.map MNode.enc)],.s (.int .i64 0)] (fun r _=>r=.s (.int .i64 (endZ (pEnd (xU p.nodes) p.nodes.length 0)))):=hcc
      (have hWf:=w5 @g1 @gb1 @g73 @g74 @g75;repeat' (first|refine zS ?_|refine zI ?_ ?_|refine zK hcc ?_|exact zF0|refine zD fun hb=>?_|exact zC|refine zT ?_|fail))
      rw [hor]
theorem li_t:(⟨#[105,110,116]⟩:ByteArray).toList=[105,110,116]:=by rw [ByteArray.toList_eq]
theorem lb_t:(⟨#[98,111,111,108]⟩:ByteArray).toList=[98,111,111,108]:=by rw [ByteArray.toList_eq]
theorem ls_t:(⟨#[115,116,114,105,110,103]⟩:ByteArray).toList=[115,116,114,105,110,103]:=by rw [ByteArray.toList_eq]
theorem lu_t:(⟨#[117,110,105,116]⟩:ByteArray).toList=[117,110,105,116]:=by rw [ByteArray.toList_eq]
theorem ll_t:(⟨#[108,105,115,116]⟩:ByteArray).toList=[108,105,115,116]:=by rw [ByteArray.toList_eq]
theorem lr_t:(⟨#[114,101,102]⟩:ByteArray).toList=[114,101,102]:=by rw [ByteArray.toList_eq]
theorem la_t:(⟨#[45,62]⟩:ByteArray).toList=[45,62]:=by rw [ByteArray.toList_eq]
theorem lm_t:(⟨#[42]⟩:ByteArray).toList=[42]:=by rw [ByteArray.toList_eq]
def gvM(s:ByteArray):Int:=
 if s.toList=[105,110,116]\/s.toList=[98,111,111,108]\/s.toList=[115,116,114,105,110,103]\/s.toList=[117,110,105,116] then 0
 else if s.toList=[108,105,115,116]\/s.toList=[114,101,102] then 1
 else if s.toList=[45,62]\/s.toList=[42] then 2 else -1
def isTy(x:TyI)(t:MType):Bool:=t.name.toList==x.name.toList&&(t.params==x.ar)
def wd(ts:List MType)(x:TyI):Bool:=if 0<=gvM x.name then x.ar==gvM x.name else ts.any (isTy x)
def zw(ts:List MType)(x:TyI):Bool:=ts.any (isTy x)||(gvM x.name==x.ar)
theorem xcs(t:MType)(x:TyI):FT 144 [.ag t.enc,.pt x.enc] (fun r _=>r=.s (.bool (isTy x t))):=by
 unfold isTy;rcases Bool.eq_false_or_eq_true (t.name.toList==x.name.toList) with e|e
 all_goals
  rw [e];refine FI PM Tryz.func144 Tryz.ntmps144 [] rfl rfl ?_
  (have hWf:=w3 @MType.enc_eq @TyI.enc_eq @e;repeat' (first|refine zS ?_|refine zI ?_ ?_|exact zF0|refine zD fun hb=>?_|exact zC|refine zT ?_|fail))
theorem nameC(s:ByteArray):(s.toList=[105,110,116]\/s.toList=[98,111,111,108]\/s.toList=[115,116,114,105,110,103]\/s.toList=[117,110,105,116]\/s.toList=[108,105,115,116]\/s.toList=[114,101,102]\/s.toList=[45,62]\/s.toList=[42])\/(gvM s = -1/\(s.toList==[105,110,116])=false/\(s.toList==[98,111,111,108])=false/\(s.toList==[115,116,114,105,110,103])=false/\(s.toList==[117,110,105,116])=false/\(s.toList==[108,105,115,116])=false/\(s.toList==[114,101,102])=false/\(s.toList==[45,62])=false/\(s.toList==[42])=false):=by
 by_cases h:(s.toList=[105,110,116]\/s.toList=[98,111,111,108]\/s.toList=[115,116,114,105,110,103]\/s.toList=[117,110,105,116]\/s.toList=[108,105,115,116]\/s.toList=[114,101,102]\/s.toList=[45,62]\/s.toList=[42])
 ·exact .inl h
 ·simp only [not_or] at h
  obtain ⟨h1,h2,h3,h4,h5,h6,h7,h8⟩:=h;refine .inr ⟨?_,by simpa using h1,by simpa using h2,by simpa using h3,by simpa using h4,by simpa using h5,by simpa using h6,by simpa using h7,by simpa using h8⟩
  unfold gvM;rw [if_neg (by simp [h1,h2,h3,h4]),if_neg (by simp [h5,h6]),if_neg (by simp [h7,h8])]
theorem c_knownTy(ts:List MType)(x:TyI):FT 92 [.sl 3 (ts.map MType.enc),.ag x.enc] (fun r _=>r=.s (.bool (wd ts x))):=by
 rcases nameC x.name with h|⟨hg,h1,h2,h3,h4,h5,h6,h7,h8⟩
 ·have hk:0<=gvM x.name->wd ts x=(x.ar==gvM x.name):=fun q=>by unfold wd;rw [if_pos q]
  rcases h with h|h|h|h|h|h|h|h
  ·have hg:gvM x.name=0:=by unfold gvM;rw [h];decide
   rw [hk (by omega),hg]
   have e0:(x.name.toList==[105,110,116])=true:=by rw [h];decide
   have e1:(x.name.toList==[98,111,111,108])=false:=by rw [h];decide
   have e2:(x.name.toList==[115,116,114,105,110,103])=false:=by rw [h];decide
   have e3:(x.name.toList==[117,110,105,116])=false:=by rw [h];decide
   have e4:(x.name.toList==[108,105,115,116])=false:=by rw [h];decide
   have e5:(x.name.toList==[114,101,102])=false:=by rw [h];decide
   have e6:(x.name.toList==[45,62])=false:=by rw [h];decide
   have e7:(x.name.toList==[42])=false:=by rw [h];decide
   refine FI PM Tryz.func92 Tryz.ntmps92 [] rfl rfl ?_
   (have hWf:=w10 @TyI.enc_eq @e0 @e1 @e2 @e3 @e4 @e5 @e6 @e7 (ai @li_t<|ai @lb_t<|ai @ls_t<|ai @lu_t<|ai @ll_t<|ai @lr_t<|ai @la_t<|@lm_t);repeat' (first|refine zS ?_|refine zI ?_ ?_|exact zF0|refine zD fun hb=>?_|exact zC|refine zT ?_|fail))
  ·have hg:gvM x.name=0:=by unfold gvM;rw [h];decide
   rw [hk (by omega),hg]
   have e0:(x.name.toList==[105,110,116])=false:=by rw [h];decide
   have e1:(x.name.toList==[98,111,111,108])=true:=by rw [h];decide
   have e2:(x.name.toList==[115,116,114,105,110,103])=false:=by rw [h];decide
   have e3:(x.name.toList==[117,110,105,116])=false:=by rw [h];decide
   have e4:(x.name.toList==[108,105,115,116])=false:=by rw [h];decide
   have e5:(x.name.toList==[114,101,102])=false:=by rw [h];decide
   have e6:(x.name.toList==[45,62])=false:=by rw [h];decide
   have e7:(x.name.toList==[42])=false:=by rw [h];decide
   refine FI PM Tryz.func92 Tryz.ntmps92 [] rfl rfl ?_
   (have hWf:=w10 @TyI.enc_eq @e0 @e1 @e2 @e3 @e4 @e5 @e6 @e7 (ai @li_t<|ai @lb_t<|ai @ls_t<|ai @lu_t<|ai @ll_t<|ai @lr_t<|ai @la_t<|@lm_t);repeat' (first|refine zS ?_|refine zI ?_ ?_|exact zF0|refine zD fun hb=>?_|exact zC|refine zT ?_|fail))
  ·have hg:gvM x.name=0:=by unfold gvM;rw [h];decide
   rw [hk (by omega),hg]
   have e0:(x.name.toList==[105,110,116])=false:=by rw [h];decide
   have e1:(x.name.toList==[98,111,111,108])=false:=by rw [h];decide
   have e2:(x.name.toList==[115,116,114,105,110,103])=true:=by rw [h];decide
   have e3:(x.name.toList==[117,110,105,116])=false:=by rw [h];decide
   have e4:(x.name.toList==[108,105,115,116])=false:=by rw [h];decide
   have e5:(x.name.toList==[114,101,102])=false:=by rw [h];decide
   have e6:(x.name.toList==[45,62])=false:=by rw [h];decide
   have e7:(x.name.toList==[42])=false:=by rw [h];decide
   refine FI PM Tryz.func92 Tryz.ntmps92 [] rfl rfl ?_
   (have hWf:=w10 @TyI.enc_eq @e0 @e1 @e2 @e3 @e4 @e5 @e6 @e7 (ai @li_t<|ai @lb_t<|ai @ls_t<|ai @lu_t<|ai @ll_t<|ai @lr_t<|ai @la_t<|@lm_t);repeat' (first|refine zS ?_|refine zI ?_ ?_|exact zF0|refine zD fun hb=>?_|exact zC|refine zT ?_|fail))
  ·have hg:gvM x.name=0:=by unfold gvM;rw [h];decide
   rw [hk (by omega),hg]
   have e0:(x.name.toList==[105,110,116])=false:=by rw [h];decide
   have e1:(x.name.toList==[98,111,111,108])=false:=by rw [h];decide
   have e2:(x.name.toList==[115,116,114,105,110,103])=false:=by rw [h];decide
   have e3:(x.name.toList==[117,110,105,116])=true:=by rw [h];decide
   have e4:(x.name.toList==[108,105,115,116])=false:=by rw [h];decide
   have e5:(x.name.toList==[114,101,102])=false:=by rw [h];decide
   have e6:(x.name.toList==[45,62])=false:=by rw [h];decide
   have e7:(x.name.toList==[42])=false:=by rw [h];decide
   refine FI PM Tryz.func92 Tryz.ntmps92 [] rfl rfl ?_
   (have hWf:=w10 @TyI.enc_eq @e0 @e1 @e2 @e3 @e4 @e5 @e6 @e7 (ai @li_t<|ai @lb_t<|ai @ls_t<|ai @lu_t<|ai @ll_t<|ai @lr_t<|ai @la_t<|@lm_t);repeat' (first|refine zS ?_|refine zI ?_ ?_|exact zF0|refine zD fun hb=>?_|exact zC|refine zT ?_|fail))
  ·have hg:gvM x.name=1:=by unfold gvM;rw [h];decide
   rw [hk (by omega),hg]
   have e0:(x.name.toList==[105,110,116])=false:=by rw [h];decide
   have e1:(x.name.toList==[98,111,111,108])=false:=by rw [h];decide
   have e2:(x.name.toList==[115,116,114,105,110,103])=false:=by rw [h];decide
   have e3:(x.name.toList==[117,110,105,116])=false:=by rw [h];decide
   have e4:(x.name.toList==[108,105,115,116])=true:=by rw [h];decide
   have e5:(x.name.toList==[114,101,102])=false:=by rw [h];decide
   have e6:(x.name.toList==[45,62])=false:=by rw [h];decide
   have e7:(x.name.toList==[42])=false:=by rw [h];decide
   refine FI PM Tryz.func92 Tryz.ntmps92 [] rfl rfl ?_
   (have hWf:=w10 @TyI.enc_eq @e0 @e1 @e2 @e3 @e4 @e5 @e6 @e7 (ai @li_t<|ai @lb_t<|ai @ls_t<|ai @lu_t<|ai @ll_t<|ai @lr_t<|ai @la_t<|@lm_t);repeat' (first|refine zS ?_|refine zI ?_ ?_|exact zF0|refine zD fun hb=>?_|exact zC|refine zT ?_|fail))
  ·have hg:gvM x.name=1:=by unfold gvM;rw [h];decide
   rw [hk (by omega),hg]
   have e0:(x.name.toList==[105,110,116])=false:=by rw [h];decide
   have e1:(x.name.toList==[98,111,111,108])=false:=by rw [h];decide
   have e2:(x.name.toList==[115,116,114,105,110,103])=false:=by rw [h];decide
   have e3:(x.name.toList==[117,110,105,116])=false:=by rw [h];decide
   have e4:(x.name.toList==[108,105,115,116])=false:=by rw [h];decide
   have e5:(x.name.toList==[114,101,102])=true:=by rw [h];decide
   have e6:(x.name.toList==[45,62])=false:=by rw [h];decide
   have e7:(x.name.toList==[42])=false:=by rw [h];decide
   refine FI PM Tryz.func92 Tryz.ntmps92 [] rfl rfl ?_
   (have hWf:=w10 @TyI.enc_eq @e0 @e1 @e2 @e3 @e4 @e5 @e6 @e7 (ai @li_t<|ai @lb_t<|ai @ls_t<|ai @lu_t<|ai @ll_t<|ai @lr_t<|ai @la_t<|@lm_t);repeat' (first|refine zS ?_|refine zI ?_ ?_|exact zF0|refine zD fun hb=>?_|exact zC|refine zT ?_|fail))
  ·have hg:gvM x.name=2:=by unfold gvM;rw [h];decide
   rw [hk (by omega),hg]
   have e0:(x.name.toList==[105,110,116])=false:=by rw [h];decide
   have e1:(x.name.toList==[98,111,111,108])=false:=by rw [h];decide
   have e2:(x.name.toList==[115,116,114,105,110,103])=false:=by rw [h];decide
   have e3:(x.name.toList==[117,110,105,116])=false:=by rw [h];decide
   have e4:(x.name.toList==[108,105,115,116])=false:=by rw [h];decide
   have e5:(x.name.toList==[114,101,102])=false:=by rw [h];decide
   have e6:(x.name.toList==[45,62])=true:=by rw [h];decide
   have e7:(x.name.toList==[42])=false:=by rw [h];decide
   refine FI PM Tryz.func92 Tryz.ntmps92 [] rfl rfl ?_
   (have hWf:=w10 @TyI.enc_eq @e0 @e1 @e2 @e3 @e4 @e5 @e6 @e7 (ai @li_t<|ai @lb_t<|ai @ls_t<|ai @lu_t<|ai @ll_t<|ai @lr_t<|ai @la_t<|@lm_t);repeat' (first|refine zS ?_|refine zI ?_ ?_|exact zF0|refine zD fun hb=>?_|exact zC|refine zT ?_|fail))
  ·have hg:gvM x.name=2:=by unfold gvM;rw [h];decide
   rw [hk (by omega),hg]
   have e0:(x.name.toList==[105,110,116])=false:=by rw [h];decide
   have e1:(x.name.toList==[98,111,111,108])=false:=by rw [h];decide
   have e2:(x.name.toList==[115,116,114,105,110,103])=false:=by rw [h];decide
   have e3:(x.name.toList==[117,110,105,116])=false:=by rw [h];decide
   have e4:(x.name.toList==[108,105,115,116])=false:=by rw [h];decide
   have e5:(x.name.toList==[114,101,102])=false:=by rw [h];decide
   have e6:(x.name.toList==[45,62])=false:=by rw [h];decide
   have e7:(x.name.toList==[42])=true:=by rw [h];decide
   refine FI PM Tryz.func92 Tryz.ntmps92 [] rfl rfl ?_
   (have hWf:=w10 @TyI.enc_eq @e0 @e1 @e2 @e3 @e4 @e5 @e6 @e7 (ai @li_t<|ai @lb_t<|ai @ls_t<|ai @lu_t<|ai @ll_t<|ai @lr_t<|ai @la_t<|@lm_t);repeat' (first|refine zS ?_|refine zI ?_ ?_|exact zF0|refine zD fun hb=>?_|exact zC|refine zT ?_|fail))
 ·have hk:wd ts x=ts.any (isTy x):=by unfold wd;rw [if_neg (by omega)]
  rw [hk];have hc:=zm ts 144 [.pt x.enc] rfl (isTy x) (fun t _=>xcs t x)
  rw [TyI.enc_eq] at hc
  refine FI PM Tryz.func92 Tryz.ntmps92 [] rfl rfl ?_
  iterate 1 (refine xj ?_;simp only [go_sem,simprocAttr,TyI.enc_eq];(have hWf:=w1 @TyI.enc_eq;repeat' (first|refine zY ?_|refine zI ?_ ?_|exact zF1|refine zD fun hb=>?_|exact zC|refine zT ?_|fail)))
  refine y8 3 (.box [.s (.int .i64 x.v),.s (.string x.name),.s (.int .i64 x.ar)]) (by simp only [go_sem,simprocAttr]) rfl ?_
  (have hWf:=w10 @TyI.enc_eq @h1 @h2 @h3 @h4 @h5 @h6 @h7 @h8 (ai @li_t<|ai @lb_t<|ai @ls_t<|ai @lu_t<|ai @ll_t<|ai @lr_t<|ai @la_t<|@lm_t);repeat' (first|refine zS ?_|refine zI ?_ ?_|refine zK hc ?_|exact zF0|refine zD fun hb=>?_|exact zC|refine zT ?_|fail))
def uV(ts:List MType)(x:TyI):Bool:=!(x.name.toList==[])&&!(wd ts x)
theorem c_check2(p:MProgram)(x:TyI):FT 91 [.ag x.enc,.pt p.enc] (fun r _=>r=.s (.bool (uV p.types x))):=by
 unfold uV;have hk:=c_knownTy p.types x;rw [TyI.enc_eq] at hk
 have e0:(⟨#[]⟩:ByteArray).toList=[]:=by rw [ByteArray.toList_eq]
 by_cases hn:x.name.toList=[]
 ·have e':(x.name.toList != [])=false:=by simp [hn]
  have e:(!(x.name.toList==[])&&!(wd p.types x))=false:=by simp [hn]
  refine FI PM Tryz.func91 Tryz.ntmps91 [] rfl rfl ?_
  (have hWf:=w4 @TyI.enc_eq @MProgram.enc_eq @e' @e0;repeat' (first|refine zS ?_|refine zI ?_ ?_|refine zK hk ?_|exact zF0|refine zD fun hb=>?_|exact zC|refine zT ?_|fail))
  all_goals exact sB e
 ·have e':(x.name.toList != [])=true:=by simp [hn]
  have e:(!(x.name.toList==[])&&!(wd p.types x))=!(wd p.types x):=by simp [hn]
  refine FI PM Tryz.func91 Tryz.ntmps91 [] rfl rfl ?_
  (have hWf:=w4 @TyI.enc_eq @MProgram.enc_eq @e' @e0;repeat' (first|refine zS ?_|refine zI ?_ ?_|refine zK hk ?_|exact zF0|refine zD fun hb=>?_|exact zC|refine zT ?_|fail))
  all_goals exact sB e
theorem c_check1(t u:MType):FT 88 [.ag u.enc,.pt t.enc] (fun r _=>r=.s (.bool (u.name.toList==t.name.toList))):=by
 refine FI PM Tryz.func88 Tryz.ntmps88 [] rfl rfl ?_
 (have hWf:=w1 @MType.enc_eq;repeat' (first|refine zS ?_|refine zI ?_ ?_|exact zF0|refine zD fun hb=>?_|exact zC|refine zT ?_|fail))
theorem Zz(xs:List TyI)(f:FuncId)(caps:List D)(hm:PM.md f=[])(p:TyI->Bool)(hf:∀ x∈xs,FT f (.ag x.enc::caps) (fun r _=>r=.s (.bool (p x)))) :
  FT 143 [.sl 3 (xs.map TyI.enc),.fn f caps] (fun r _=>r=.s (.int .i64 (fidx p xs))):=by
 refine FI PM Tryz.func143 Tryz.ntmps143 [] rfl rfl ?_;refine yr 0 rfl trivial fun hlen=>?_
 simp only [List.length_map] at hlen
 (have hWf:=f0;repeat' (first|refine zS ?_|refine zI ?_ ?_|exact zF0|refine zD fun hb=>?_|exact zC|refine zT ?_|fail))
 refine xd (fun n σ=>∃ k:Nat,k<=xs.length/\n=xs.length - k/\σ.t 0=.sl 3 (xs.map TyI.enc)/\σ.t 1=.fn f caps/\σ.t 7=.s (.int .i64 xs.length)/\σ.t 8=.s (.int .i64 k)/\∀ x∈xs.take k,p x=false) xs.length ⟨0,by omega,by omega,?_⟩ ?_
 ·simp only [go_sem,simprocAttr,Int.natCast_zero]
  all_goals simp
 ·rintro n σ ⟨k,hk,rfl,h0,h1,h7,h8,hno⟩ K' hK
  by_cases hlt:k<xs.length
  ·have hx:=xb TyI.enc xs k hlt
   have he:=TyI.enc_eq xs[k];have hc:=hf xs[k] (List.getElem_mem hlt);rw [he] at hc
   cases hp:p xs[k] with
   | true=>
    rw [hp] at hc
    (have hWf:=w7 @h0 @h1 @h7 @h8 @hx @he @hm;repeat' (first|refine zS ?_|refine zI ?_ ?_|refine zK hc ?_|exact zF0|refine zD fun hb=>?_|exact zC|refine zT ?_|fail))
    all_goals exact xq (uF p xs k hlt hno hp).symm
   | false=>
    rw [hp] at hc
    (have hWf:=w7 @h0 @h1 @h7 @h8 @hx @he @hm;repeat' (first|refine zS ?_|refine zI ?_ ?_|refine zK hc ?_|exact zF0|refine zD fun hb=>?_|exact zC|refine zT ?_|fail))
    refine hK (xs.length - (k+1)) _ (by omega) ⟨k+1,by omega,rfl,?_⟩
    simp only [go_sem,simprocAttr,h0,h1,h7,Int.natCast_succ];exact uf hlt hno hp
  ·obtain rfl:k=xs.length:=by omega
   (have hWf:=w4 @h0 @h1 @h7 @h8;repeat' (first|refine zS ?_|refine zI ?_ ?_|exact zF0|refine zD fun hb=>?_|exact zC|refine zT ?_|fail))
   exact xq (uG p xs (by simpa using hno)).symm
theorem Yv(xs:List TyI)(f:FuncId)(caps:List D)(hm:PM.md f=[])(p:TyI->Bool)(hf:∀ x∈xs,FT f (.ag x.enc::caps) (fun r _=>r=.s (.bool (p x)))) :
  FT 90 [.sl 3 (xs.map TyI.enc),.fn f caps] (fun r _=>r=.s (.bool (xs.any p))):=by
 refine FI PM Tryz.func90 Tryz.ntmps90 [] rfl rfl ?_
 (have hWf:=f0;repeat' (first|refine zS ?_|refine zI ?_ ?_|refine zK (Zz xs f caps hm p hf) ?_|exact zF0|refine zD fun hb=>?_|exact zC|refine zT ?_|fail))
 exact sB (uv p xs)
def yO(cs:List MCon):List ByteArray:=cs.map fun c=>c.name
def accN(ts:List MType):List ByteArray:=ts.flatMap fun t=>yO t.cons
def preL:List ByteArray:=[⟨#[105,110,116]⟩,⟨#[98,111,111,108]⟩,⟨#[115,116,114,105,110,103]⟩,⟨#[117,110,105,116]⟩,⟨#[108,105,115,116]⟩]
def bad11(ts:List MType)(k:Nat)(t:MType):Bool:=(ts.take k).any (fun u=>u.name.toList==t.name.toList)||inL t.name preL
theorem accN_len(ts:List MType)(h:∀ t∈ts,t.cons.length<=1048576):(accN ts).length<=ts.length*1048576:=by
 induction ts with
 | nil=>exact Nat.zero_le _
 | cons t ts ih=>
  have h1:=ih fun x hx=>h x (List.mem_cons_of_mem _ hx)
  have h2:=h t (List.mem_cons_self ..);unfold accN at *
  rw [List.flatMap_cons,List.length_append,List.length_cons,Nat.add_mul];have:(yO t.cons).length=t.cons.length:=List.length_map _;omega
theorem conNs_len(cs:List MCon):(yO cs).length=cs.length:=List.length_map _
structure OkI(ts:List MType)(k:Nat)(t:MType):Prop where
 nm:bad11 ts k t=false
 dup:∀ j (h:j<t.cons.length),inL t.cons[j].name (accN (ts.take k)++yO (t.cons.take j))=false
 arg:∀ c∈t.cons,c.arg.any (uV ts)=false
def AllI(ts:List MType):Prop:=∀ k (h:k<ts.length),OkI ts k ts[k]
theorem xb0(p:MProgram)(ho:p.ok)(hs:p.sm)(hp:yq p=true):FT 43 [.ag p.enc] (fun r _=>∃ z i:Int,r=.tup [.s (.int .i64 z),.s (.int .i64 i)]/\(z=0 ↔ AllI p.types)):=by
 have hc:=XV p ho hs;rw [hp,MProgram.enc_eq] at hc
 have hlt:=hs.1.1;rw [MProgram.enc_eq];refine FI PM Tryz.func43 Tryz.ntmps43 [] rfl rfl ?_
 iterate 1 (refine xj ?_;simp only [go_sem,simprocAttr];(have hWf:=f0;repeat' (first|refine zY ?_|refine zI ?_ ?_|exact zF1|refine zD fun hb=>?_|exact zC|refine zT ?_|fail)))
 refine y8 1 (.box [.sl 3 (p.types.map MType.enc),.sl 6 (p.nodes.map MNode.enc)]) (by simp only [go_sem,simprocAttr]) rfl ?_
 (have hWf:=f0;repeat' (first|refine zS ?_|refine zI ?_ ?_|refine zK hc ?_|exact zF0|refine zD fun hb=>?_|exact zC|refine zT ?_|fail))
 refine xd (fun n σ=>∃ k:Nat,k<=p.types.length/\n=p.types.length - k/\(∀ j (h:j<p.types.length),j<k->OkI p.types j p.types[j])/\σ.t 1=.pt [.sl 3 (p.types.map MType.enc),.sl 6 (p.nodes.map MNode.enc)]/\σ.t 4=.bs 15 1 (accN (p.types.take k)).length/\σ.b 15=some (.arr 9 1 ((accN (p.types.take k)).map stE))/\σ.t 17=.sl 3 (p.types.map MType.enc)/\σ.t 18=.s (.int .i64 p.types.length)/\σ.t 19=.s (.int .i64 k)) p.types.length ⟨0,Nat.zero_le _,rfl,fun j _ h=>absurd h (Nat.not_lt_zero _),?_⟩ ?_
 ·simp only [go_sem,simprocAttr,List.take_zero,Int.natCast_zero]
  exact ⟨rfl,rfl⟩
 ·rintro n σ ⟨k,hk,rfl,hok,h1,h4,b15,h17,h18,h19⟩ K' hK
  by_cases hlk:k<p.types.length
  ·obtain ⟨t,ht⟩:∃ t,t=p.types[k]:=⟨_,rfl⟩
   have hx:=xb MType.enc p.types k hlk;rw [<- ht] at hx
   have hte:=MType.enc_eq t;have htk:p.types.take (k+1)=p.types.take k++[t]:=by rw [ht];exact List.take_succ_eq_append_getElem hlk
   have hany:=zm (p.types.take k) 88 [.pt t.enc] rfl (fun u=>u.name.toList==t.name.toList) (fun u _=>c_check1 t u)
   rw [List.map_take,hte] at hany
   have hpre:=yL preL t.name;have hpe:preL.map stE=[[.s (.string ⟨#[105,110,116]⟩)],[.s (.string ⟨#[98,111,111,108]⟩)],[.s (.string ⟨#[115,116,114,105,110,103]⟩)],[.s (.string ⟨#[117,110,105,116]⟩)],[.s (.string ⟨#[108,105,115,116]⟩)]]:=rfl;rw [hpe] at hpre
   have hsm:=hs.1.2 t (by rw [ht];exact List.getElem_mem hlk)
   iterate 4 (refine xj ?_;simp only [go_sem,simprocAttr,h1,h4,b15,h17,h18,h19,hx,hte];(have hWf:=w8 @h1 @h4 @b15 @h17 @h18 @h19 @hx @hte;repeat' (first|refine zY ?_|refine zI ?_ ?_|exact zF1|refine zD fun hb=>?_|exact zC|refine zT ?_|fail)))
   refine y8 6 (.box [.s (.string t.name),.s (.int .i64 t.params),.sl 3 (t.cons.map MCon.enc)]) (by simp only [go_sem,simprocAttr,h1,h4,b15,h17,h18,h19,hx,hte]) rfl ?_
   have hno:∀ z i:Int,z≠0->¬ OkI p.types k t->∃ z' i':Int,D.tup [.s (.int .i64 z),.s (.int .i64 i)]=D.tup [.s (.int .i64 z'),.s (.int .i64 i')]/\(z'=0 ↔ AllI p.types):=fun z i hz hn=>⟨z,i,rfl,fun q=>absurd q hz,fun q=>absurd (by rw [ht];exact q k hlk) hn⟩
   rcases Bool.eq_false_or_eq_true ((p.types.take k).any (fun u=>u.name.toList==t.name.toList)) with g1|g1
   ·rw [g1] at hany
    (have hWf:=w8 @h1 @h4 @b15 @h17 @h18 @h19 @hx @hte;repeat' (first|refine zS ?_|refine zI ?_ ?_|refine zK hany ?_|exact zF0|refine zD fun hb=>?_|exact zC|refine zT ?_|fail))
    exact hno _ _ (by decide) fun q=>by have:=q.nm;unfold bad11 at this;rw [g1] at this;cases this
   rw [g1] at hany
   rcases Bool.eq_false_or_eq_true (inL t.name preL) with g2|g2
   ·rw [g2] at hpre
    (have hWf:=w8 @h1 @h4 @b15 @h17 @h18 @h19 @hx @hte;repeat' (first|refine zS ?_|refine zI ?_ ?_|refine zK hany ?_|refine zK hpre ?_|exact zF0|refine zD fun hb=>?_|exact zC|refine zT ?_|fail))
    exact hno _ _ (by decide) fun q=>by have:=q.nm;unfold bad11 at this;rw [g1,g2] at this;cases this
   rw [g2] at hpre
   have hnm:bad11 p.types k t=false:=by unfold bad11;rw [g1,g2];rfl
   (have hWf:=w8 @h1 @h4 @b15 @h17 @h18 @h19 @hx @hte;repeat' (first|refine zS ?_|refine zI ?_ ?_|refine zK hany ?_|refine zK hpre ?_|exact zF0|refine zD fun hb=>?_|exact zC|refine zT ?_|fail))
   obtain ⟨A,hA⟩:∃ A,A=accN (p.types.take k):=⟨_,rfl⟩;have hAl:A.length<=1099511627776:=by
    rw [hA];have:=accN_len (p.types.take k) fun u hu=>(hs.1.2 u (List.mem_of_mem_take hu)).2.1
    have:(p.types.take k).length<=1048576:=by rw [List.length_take];omega
    omega
   have hcl:t.cons.length<=1048576:=hsm.2.1;rw [<- hA] at h4 b15
   refine xd (fun n σ=>∃ j:Nat,j<=t.cons.length/\n=t.cons.length - j/\(∀ i (h:i<t.cons.length),i<j->inL t.cons[i].name (A++yO (t.cons.take i))=false)/\σ.t 1=.pt [.sl 3 (p.types.map MType.enc),.sl 6 (p.nodes.map MNode.enc)]/\σ.t 4=.bs 15 1 (A++yO (t.cons.take j)).length/\σ.b 15=some (.arr 9 1 ((A++yO (t.cons.take j)).map stE))/\σ.t 5=.s (.int .i64 k)/\σ.t 6=.pt [.s (.string t.name),.s (.int .i64 t.params),.sl 3 (t.cons.map MCon.enc)]/\σ.t 17=.sl 3 (p.types.map MType.enc)/\σ.t 18=.s (.int .i64 p.types.length)/\σ.t 19=.s (.int .i64 k)/\σ.t 39=.sl 3 (t.cons.map MCon.enc)/\σ.t 40=.s (.int .i64 t.cons.length)/\σ.t 41=.s (.int .i64 j)) t.cons.length ⟨0,Nat.zero_le _,rfl,fun i _ h=>absurd h (Nat.not_lt_zero _),?_⟩ ?_
   ·have hcn:yO []=[]:=rfl
    simp only [go_sem,simprocAttr,h1,h4,b15,h17,h18,h19,hx,hte,List.take_zero,hcn,List.append_nil,Int.natCast_zero]
    done
   ·clear h1 h4 b15 h17 h18 h19
    rintro n σ ⟨j,hj,rfl,hdup,h1,h4,b15,h5,h6,h17,h18,h19,h39,h40,h41⟩ K2 hK2
    by_cases hlj:j<t.cons.length
    ·have hxc:=xb MCon.enc t.cons j hlj
     have hce:=MCon.enc_eq t.cons[j];have hcon:=yL (A++yO (t.cons.take j)) t.cons[j].name;have hns:yO (t.cons.take (j+1))=yO (t.cons.take j)++[t.cons[j].name]:=by unfold yO;rw [List.take_succ_eq_append_getElem hlj,List.map_append];rfl
     rcases Bool.eq_false_or_eq_true (inL t.cons[j].name (A++yO (t.cons.take j))) with g3|g3
     ·rw [g3] at hcon
      (have hWf:=w10 @h1 @h4 @b15 @h5 @h6 @h17 @h18 @h19 @h39 (ai @h40<|ai @h41<|ai @hxc<|ai @hce<|@zo);repeat' (first|refine zS ?_|refine zI ?_ ?_|refine zK hcon ?_|exact zF0|refine zD fun hb=>?_|exact zC|refine zT ?_|fail))
      exact hno _ _ (by decide) fun q=>by have:=q.dup j hlj;rw [<- hA,g3] at this;cases this
     ·rw [g3] at hcon
      have hcnl:(yO (t.cons.take j)).length<=1048576:=by rw [conNs_len,List.length_take];omega
      (have hWf:=w10 @h1 @h4 @b15 @h5 @h6 @h17 @h18 @h19 @h39 (ai @h40<|ai @h41<|ai @hxc<|ai @hce<|@zo);repeat' (first|refine zS ?_|refine zI ?_ ?_|refine zK hcon ?_|exact zF0|refine zD fun hb=>?_|exact zC|refine zT ?_|fail))
      refine hK2 (t.cons.length - (j+1)) _ (by omega) ⟨j+1,by omega,rfl,fun i h hi=>?_,?_⟩
      ·rcases Nat.lt_or_ge i j with q|q
       ·exact hdup i h q
       ·obtain rfl:i=j:=by omega
        exact g3
      ·simp only [go_sem,simprocAttr,h1,h4,b15,h5,h6,h17,h18,h19,h39,h40,h41,hxc,hce,hns,Int.natCast_succ,List.length_append,List.map_append,List.append_assoc]
       exact ⟨rfl,rfl⟩
    ·obtain rfl:j=t.cons.length:=by omega
     (have hWf:=w10 @h1 @h4 @b15 @h5 @h6 @h17 @h18 @h19 @h39 (ai @h40<|@h41);repeat' (first|refine zS ?_|refine zI ?_ ?_|exact zF0|refine zD fun hb=>?_|exact zC|refine zT ?_|fail))
     rw [List.take_length] at h4 b15
     have hchk:∀ c:MCon,FT 90 [.sl 3 (c.arg.map TyI.enc),.fn 91 [.pt [.sl 3 (p.types.map MType.enc),.sl 6 (p.nodes.map MNode.enc)]]] (fun r _=>r=.s (.bool (c.arg.any (uV p.types)))):=fun c=>Yv c.arg 91 [.pt [.sl 3 (p.types.map MType.enc),.sl 6 (p.nodes.map MNode.enc)]] rfl (uV p.types) (fun x _=>by have:=c_check2 p x;rw [MProgram.enc_eq] at this;exact this)
     refine xd (fun n σ=>∃ j:Nat,j<=t.cons.length/\n=t.cons.length - j/\(∀ i (h:i<t.cons.length),i<j->t.cons[i].arg.any (uV p.types)=false)/\σ.t 1=.pt [.sl 3 (p.types.map MType.enc),.sl 6 (p.nodes.map MNode.enc)]/\σ.t 4=.bs 15 1 (A++yO t.cons).length/\σ.b 15=some (.arr 9 1 ((A++yO t.cons).map stE))/\σ.t 5=.s (.int .i64 k)/\σ.t 17=.sl 3 (p.types.map MType.enc)/\σ.t 18=.s (.int .i64 p.types.length)/\σ.t 19=.s (.int .i64 k)/\σ.t 57=.sl 3 (t.cons.map MCon.enc)/\σ.t 58=.s (.int .i64 t.cons.length)/\σ.t 59=.s (.int .i64 j)) t.cons.length ⟨0,Nat.zero_le _,rfl,fun i _ h=>absurd h (Nat.not_lt_zero _),?_⟩ ?_
     ·simp only [go_sem,simprocAttr,h1,h4,b15,h5,h6,h17,h18,h19,Int.natCast_zero]
      done
     ·clear h1 h4 b15 h5 h6 h17 h18 h19 h39 h40 h41
      rintro n σ ⟨j,hj,rfl,harg,h1,h4,b15,h5,h17,h18,h19,h57,h58,h59⟩ K3 hK3
      by_cases hlj:j<t.cons.length
      ·have hxc:=xb MCon.enc t.cons j hlj
       have hce:=MCon.enc_eq t.cons[j];have hck:=hchk t.cons[j];rcases Bool.eq_false_or_eq_true (t.cons[j].arg.any (uV p.types)) with g3|g3
       ·rw [g3] at hck
        (have hWf:=w10 @h1 @h4 @b15 @h5 @h17 @h18 @h19 @h57 @h58 (ai @h59<|ai @hxc<|@hce);repeat' (first|refine zS ?_|refine zI ?_ ?_|refine zK hck ?_|exact zF0|refine zD fun hb=>?_|exact zC|refine zT ?_|fail))
        exact hno _ _ (by decide) fun q=>by have:=q.arg _ (List.getElem_mem hlj);rw [g3] at this;cases this
       ·rw [g3] at hck
        (have hWf:=w10 @h1 @h4 @b15 @h5 @h17 @h18 @h19 @h57 @h58 (ai @h59<|ai @hxc<|@hce);repeat' (first|refine zS ?_|refine zI ?_ ?_|refine zK hck ?_|exact zF0|refine zD fun hb=>?_|exact zC|refine zT ?_|fail))
        refine hK3 (t.cons.length - (j+1)) _ (by omega) ⟨j+1,by omega,rfl,fun i h hi=>?_,?_⟩
        ·rcases Nat.lt_or_ge i j with q|q
         ·exact harg i h q
         ·obtain rfl:i=j:=by omega
          exact g3
        ·simp only [go_sem,simprocAttr,h1,h4,b15,h5,h17,h18,h19,h57,h58,h59,hxc,hce,Int.natCast_succ]
         done
      ·obtain rfl:j=t.cons.length:=by omega
       (have hWf:=w10 @h1 @h4 @b15 @h5 @h17 @h18 @h19 @h57 @h58 @h59;repeat' (first|refine zS ?_|refine zI ?_ ?_|exact zF0|refine zD fun hb=>?_|exact zC|refine zT ?_|fail))
       have hacc:accN (p.types.take (k+1))=A++yO t.cons:=by rw [htk,hA];unfold accN;rw [List.flatMap_append];simp
       refine hK (p.types.length - (k+1)) _ (by omega) ⟨k+1,by omega,rfl,fun i h hi=>?_,?_⟩
       ·rcases Nat.lt_or_ge i k with q|q
        ·exact hok i h q
        ·obtain rfl:i=k:=by omega
         rw [<- ht];exact ⟨hnm,fun i h=>by rw [<- hA];exact hdup i h h,fun c hc=>by
          obtain ⟨i,hi,rfl⟩:=List.getElem_of_mem hc;exact harg i hi hi⟩
       ·simp only [go_sem,simprocAttr,h1,h4,b15,h5,h17,h18,h19,h57,h58,h59,hacc,Int.natCast_succ]
        done
  ·obtain rfl:k=p.types.length:=by omega
   (have hWf:=w6 @h1 @h4 @b15 @h17 @h18 @h19;repeat' (first|refine zS ?_|refine zI ?_ ?_|exact zF0|refine zD fun hb=>?_|exact zC|refine zT ?_|fail))
   exact ⟨0,0,rfl,⟨fun _ j h=>hok j h h,fun _=>rfl⟩⟩
theorem Vd(s:ByteArray):FT 71 [.s (.string s)] (fun r _=>r=.s (.int .i64 (gvM s))):=by
 rcases nameC s with h|⟨hg,h1,h2,h3,h4,h5,h6,h7,h8⟩
 ·rcases h with h|h|h|h|h|h|h|h
  ·have hg:gvM s=0:=by unfold gvM;rw [h];decide
   rw [hg];have e0:(s.toList==[105,110,116])=true:=by rw [h];decide
   have e1:(s.toList==[98,111,111,108])=false:=by rw [h];decide
   have e2:(s.toList==[115,116,114,105,110,103])=false:=by rw [h];decide
   have e3:(s.toList==[117,110,105,116])=false:=by rw [h];decide
   have e4:(s.toList==[108,105,115,116])=false:=by rw [h];decide
   have e5:(s.toList==[114,101,102])=false:=by rw [h];decide
   have e6:(s.toList==[45,62])=false:=by rw [h];decide
   have e7:(s.toList==[42])=false:=by rw [h];decide
   refine FI PM Tryz.func71 Tryz.ntmps71 [] rfl rfl ?_
   (have hWf:=w10 @e0 @e1 @e2 @e3 @e4 @e5 @e6 @e7 @li_t (ai @lb_t<|ai @ls_t<|ai @lu_t<|ai @ll_t<|ai @lr_t<|ai @la_t<|@lm_t);repeat' (first|refine zS ?_|refine zI ?_ ?_|exact zF0|refine zD fun hb=>?_|exact zC|refine zT ?_|fail))
  ·have hg:gvM s=0:=by unfold gvM;rw [h];decide
   rw [hg];have e0:(s.toList==[105,110,116])=false:=by rw [h];decide
   have e1:(s.toList==[98,111,111,108])=true:=by rw [h];decide
   have e2:(s.toList==[115,116,114,105,110,103])=false:=by rw [h];decide
   have e3:(s.toList==[117,110,105,116])=false:=by rw [h];decide
   have e4:(s.toList==[108,105,115,116])=false:=by rw [h];decide
   have e5:(s.toList==[114,101,102])=false:=by rw [h];decide
   have e6:(s.toList==[45,62])=false:=by rw [h];decide
   have e7:(s.toList==[42])=false:=by rw [h];decide
   refine FI PM Tryz.func71 Tryz.ntmps71 [] rfl rfl ?_
   (have hWf:=w10 @e0 @e1 @e2 @e3 @e4 @e5 @e6 @e7 @li_t (ai @lb_t<|ai @ls_t<|ai @lu_t<|ai @ll_t<|ai @lr_t<|ai @la_t<|@lm_t);repeat' (first|refine zS ?_|refine zI ?_ ?_|exact zF0|refine zD fun hb=>?_|exact zC|refine zT ?_|fail))
  ·have hg:gvM s=0:=by unfold gvM;rw [h];decide
   rw [hg];have e0:(s.toList==[105,110,116])=false:=by rw [h];decide
   have e1:(s.toList==[98,111,111,108])=false:=by rw [h];decide
   have e2:(s.toList==[115,116,114,105,110,103])=true:=by rw [h];decide
   have e3:(s.toList==[117,110,105,116])=false:=by rw [h];decide
   have e4:(s.toList==[108,105,115,116])=false:=by rw [h];decide
   have e5:(s.toList==[114,101,102])=false:=by rw [h];decide
   have e6:(s.toList==[45,62])=false:=by rw [h];decide
   have e7:(s.toList==[42])=false:=by rw [h];decide
   refine FI PM Tryz.func71 Tryz.ntmps71 [] rfl rfl ?_
   (have hWf:=w10 @e0 @e1 @e2 @e3 @e4 @e5 @e6 @e7 @li_t (ai @lb_t<|ai @ls_t<|ai @lu_t<|ai @ll_t<|ai @lr_t<|ai @la_t<|@lm_t);repeat' (first|refine zS ?_|refine zI ?_ ?_|exact zF0|refine zD fun hb=>?_|exact zC|refine zT ?_|fail))
  ·have hg:gvM s=0:=by unfold gvM;rw [h];decide
   rw [hg];have e0:(s.toList==[105,110,116])=false:=by rw [h];decide
   have e1:(s.toList==[98,111,111,108])=false:=by rw [h];decide
   have e2:(s.toList==[115,116,114,105,110,103])=false:=by rw [h];decide
   have e3:(s.toList==[117,110,105,116])=true:=by rw [h];decide
   have e4:(s.toList==[108,105,115,116])=false:=by rw [h];decide
   have e5:(s.toList==[114,101,102])=false:=by rw [h];decide
   have e6:(s.toList==[45,62])=false:=by rw [h];decide
   have e7:(s.toList==[42])=false:=by rw [h];decide
   refine FI PM Tryz.func71 Tryz.ntmps71 [] rfl rfl ?_
   (have hWf:=w10 @e0 @e1 @e2 @e3 @e4 @e5 @e6 @e7 @li_t (ai @lb_t<|ai @ls_t<|ai @lu_t<|ai @ll_t<|ai @lr_t<|ai @la_t<|@lm_t);repeat' (first|refine zS ?_|refine zI ?_ ?_|exact zF0|refine zD fun hb=>?_|exact zC|refine zT ?_|fail))
  ·have hg:gvM s=1:=by unfold gvM;rw [h];decide
   rw [hg];have e0:(s.toList==[105,110,116])=false:=by rw [h];decide
   have e1:(s.toList==[98,111,111,108])=false:=by rw [h];decide
   have e2:(s.toList==[115,116,114,105,110,103])=false:=by rw [h];decide
   have e3:(s.toList==[117,110,105,116])=false:=by rw [h];decide
   have e4:(s.toList==[108,105,115,116])=true:=by rw [h];decide
   have e5:(s.toList==[114,101,102])=false:=by rw [h];decide
   have e6:(s.toList==[45,62])=false:=by rw [h];decide
   have e7:(s.toList==[42])=false:=by rw [h];decide
   refine FI PM Tryz.func71 Tryz.ntmps71 [] rfl rfl ?_
   (have hWf:=w10 @e0 @e1 @e2 @e3 @e4 @e5 @e6 @e7 @li_t (ai @lb_t<|ai @ls_t<|ai @lu_t<|ai @ll_t<|ai @lr_t<|ai @la_t<|@lm_t);repeat' (first|refine zS ?_|refine zI ?_ ?_|exact zF0|refine zD fun hb=>?_|exact zC|refine zT ?_|fail))
  ·have hg:gvM s=1:=by unfold gvM;rw [h];decide
   rw [hg];have e0:(s.toList==[105,110,116])=false:=by rw [h];decide
   have e1:(s.toList==[98,111,111,108])=false:=by rw [h];decide
   have e2:(s.toList==[115,116,114,105,110,103])=false:=by rw [h];decide
   have e3:(s.toList==[117,110,105,116])=false:=by rw [h];decide
   have e4:(s.toList==[108,105,115,116])=false:=by rw [h];decide
   have e5:(s.toList==[114,101,102])=true:=by rw [h];decide
   have e6:(s.toList==[45,62])=false:=by rw [h];decide
   have e7:(s.toList==[42])=false:=by rw [h];decide
   refine FI PM Tryz.func71 Tryz.ntmps71 [] rfl rfl ?_
   (have hWf:=w10 @e0 @e1 @e2 @e3 @e4 @e5 @e6 @e7 @li_t (ai @lb_t<|ai @ls_t<|ai @lu_t<|ai @ll_t<|ai @lr_t<|ai @la_t<|@lm_t);repeat' (first|refine zS ?_|refine zI ?_ ?_|exact zF0|refine zD fun hb=>?_|exact zC|refine zT ?_|fail))
  ·have hg:gvM s=2:=by unfold gvM;rw [h];decide
   rw [hg];have e0:(s.toList==[105,110,116])=false:=by rw [h];decide
   have e1:(s.toList==[98,111,111,108])=false:=by rw [h];decide
   have e2:(s.toList==[115,116,114,105,110,103])=false:=by rw [h];decide
   have e3:(s.toList==[117,110,105,116])=false:=by rw [h];decide
   have e4:(s.toList==[108,105,115,116])=false:=by rw [h];decide
   have e5:(s.toList==[114,101,102])=false:=by rw [h];decide
   have e6:(s.toList==[45,62])=true:=by rw [h];decide
   have e7:(s.toList==[42])=false:=by rw [h];decide
   refine FI PM Tryz.func71 Tryz.ntmps71 [] rfl rfl ?_
   (have hWf:=w10 @e0 @e1 @e2 @e3 @e4 @e5 @e6 @e7 @li_t (ai @lb_t<|ai @ls_t<|ai @lu_t<|ai @ll_t<|ai @lr_t<|ai @la_t<|@lm_t);repeat' (first|refine zS ?_|refine zI ?_ ?_|exact zF0|refine zD fun hb=>?_|exact zC|refine zT ?_|fail))
  ·have hg:gvM s=2:=by unfold gvM;rw [h];decide
   rw [hg];have e0:(s.toList==[105,110,116])=false:=by rw [h];decide
   have e1:(s.toList==[98,111,111,108])=false:=by rw [h];decide
   have e2:(s.toList==[115,116,114,105,110,103])=false:=by rw [h];decide
   have e3:(s.toList==[117,110,105,116])=false:=by rw [h];decide
   have e4:(s.toList==[108,105,115,116])=false:=by rw [h];decide
   have e5:(s.toList==[114,101,102])=false:=by rw [h];decide
   have e6:(s.toList==[45,62])=false:=by rw [h];decide
   have e7:(s.toList==[42])=true:=by rw [h];decide
   refine FI PM Tryz.func71 Tryz.ntmps71 [] rfl rfl ?_
   (have hWf:=w10 @e0 @e1 @e2 @e3 @e4 @e5 @e6 @e7 @li_t (ai @lb_t<|ai @ls_t<|ai @lu_t<|ai @ll_t<|ai @lr_t<|ai @la_t<|@lm_t);repeat' (first|refine zS ?_|refine zI ?_ ?_|exact zF0|refine zD fun hb=>?_|exact zC|refine zT ?_|fail))
 ·rw [hg]
  refine FI PM Tryz.func71 Tryz.ntmps71 [] rfl rfl ?_
  (have hWf:=w10 @h1 @h2 @h3 @h4 @h5 @h6 @h7 @h8 @li_t (ai @lb_t<|ai @ls_t<|ai @lu_t<|ai @ll_t<|ai @lr_t<|ai @la_t<|@lm_t);repeat' (first|refine zS ?_|refine zI ?_ ?_|exact zF0|refine zD fun hb=>?_|exact zC|refine zT ?_|fail))
theorem xcy(p:MProgram)(hl:p.types.length<=1048576)(x:TyI):FT 73 [.ag p.enc,.s (.string x.name),.s (.int .i64 x.ar)] (fun r _=>r=.s (.bool (zw p.types x))):=by
 rw [MProgram.enc_eq];refine FI PM Tryz.func73 Tryz.ntmps73 [] rfl rfl ?_
 (have hWf:=f0;repeat' (first|refine zS ?_|refine zI ?_ ?_|exact zF0|refine zD fun hb=>?_|exact zC|refine zT ?_|fail))
 refine xd (fun n σ=>∃ k:Nat,k<=p.types.length/\n=p.types.length - k/\(∀ t∈p.types.take k,isTy x t=false)/\σ.t 1=.s (.string x.name)/\σ.t 2=.s (.int .i64 x.ar)/\σ.t 10=.sl 3 (p.types.map MType.enc)/\σ.t 11=.s (.int .i64 p.types.length)/\σ.t 12=.s (.int .i64 k)) p.types.length ⟨0,Nat.zero_le _,rfl,by simp,?_⟩ ?_
 ·simp only [go_sem,simprocAttr,Int.natCast_zero]
  done
 ·rintro n σ ⟨k,hk,rfl,hno,h1,h2,h10,h11,h12⟩ K' hK
  by_cases hlk:k<p.types.length
  ·have hx:=xb MType.enc p.types k hlk
   have he:=MType.enc_eq p.types[k];cases hi:isTy x p.types[k] with
   | true=>
    have hi':=hi;unfold isTy at hi'
    simp only [Bool.and_eq_true] at hi'
    obtain ⟨e1,e2⟩:=hi';have hkn:zw p.types x=true:=by unfold zw;rw [List.any_eq_true.2 ⟨_,List.getElem_mem hlk,hi⟩];rfl
    rw [hkn]
    (have hWf:=w9 @h1 @h2 @h10 @h11 @h12 @hx @he @e1 @e2;repeat' (first|refine zS ?_|refine zI ?_ ?_|exact zF0|refine zD fun hb=>?_|exact zC|refine zT ?_|fail))
   | false=>
    have hstep:∀ t∈p.types.take (k+1),isTy x t=false:=fun t ht=>by
     rw [List.take_succ_eq_append_getElem hlk] at ht
     rcases List.mem_append.1 ht with ht|ht
     ·exact hno t ht
     ·rw [List.mem_singleton.1 ht];exact hi
    have hi':=hi;unfold isTy at hi'
    rcases Bool.eq_false_or_eq_true (p.types[k].name.toList==x.name.toList) with e1|e1
    ·have e2:(p.types[k].params==x.ar)=false:=by rw [e1,Bool.true_and] at hi';exact hi'
     (have hWf:=w9 @h1 @h2 @h10 @h11 @h12 @hx @he @e1 @e2;repeat' (first|refine zS ?_|refine zI ?_ ?_|exact zF0|refine zD fun hb=>?_|exact zC|refine zT ?_|fail))
     refine hK (p.types.length - (k+1)) _ (by omega) ⟨k+1,by omega,rfl,hstep,?_⟩
     simp only [go_sem,simprocAttr,h1,h2,h10,h11,h12,Int.natCast_succ]
     done
    ·(have hWf:=w8 @h1 @h2 @h10 @h11 @h12 @hx @he @e1;repeat' (first|refine zS ?_|refine zI ?_ ?_|exact zF0|refine zD fun hb=>?_|exact zC|refine zT ?_|fail))
     refine hK (p.types.length - (k+1)) _ (by omega) ⟨k+1,by omega,rfl,hstep,?_⟩
     simp only [go_sem,simprocAttr,h1,h2,h10,h11,h12,Int.natCast_succ]
     done
  ·obtain rfl:k=p.types.length:=by omega
   rw [List.take_length] at hno
   have hkn:zw p.types x=(gvM x.name==x.ar):=by
    unfold zw;have:p.types.any (isTy x)=false:=by rw [List.any_eq_false];intro t ht;rw [hno t ht];simp
    rw [this,Bool.false_or]
   rw [hkn]
   (have hWf:=w5 @h1 @h2 @h10 @h11 @h12;repeat' (first|refine zS ?_|refine zI ?_ ?_|refine zK (Vd x.name) ?_|exact zF0|refine zD fun hb=>?_|exact zC|refine zT ?_|fail))
theorem accN_mem{ts:List MType}{x:ByteArray}:x∈accN ts ↔ ∃ t∈ts,∃ c∈t.cons,c.name=x:=by
 unfold accN yO;rw [List.mem_flatMap]
 constructor
 ·rintro ⟨t,ht,hx⟩
  obtain ⟨c,hc,e⟩:=List.mem_map.1 hx;exact ⟨t,ht,c,hc,e⟩
 ·rintro ⟨t,ht,c,hc,e⟩
  exact ⟨t,ht,List.mem_map.2 ⟨c,hc,e⟩⟩
theorem y5{a b:ByteArray}:(a.toList==b.toList)=true ↔ a=b:=by
 rw [beq_iff_eq,ByteArray.toList_eq,ByteArray.toList_eq];exact ⟨fun h=>ByteArray.ext (Array.ext' h),fun h=>by rw [h]⟩
def earM(ts:List MType)(i k:Nat):Prop:=∃ (j:Nat) (hj:j<ts.length) (m:Nat) (hm:m<ts[j].cons.length) (hi:i<ts.length) (hk:k<ts[i].cons.length),j<=i/\ts[j].cons[m].name=ts[i].cons[k].name/\(j<i\/m<k)
theorem xaX(p:MProgram)(hs:p.sm)(i k:Nat)(hi:i<p.types.length)(hk:k<p.types[i].cons.length):FT 72 [.ag p.enc,.s (.int .i64 i),.s (.int .i64 k)] (fun r _=>∃ b:Bool,r=.s (.bool b)/\(b=true ↔ earM p.types i k)):=by
 rw [MProgram.enc_eq];have hl:=hs.1.1;have hx:=xb MType.enc p.types i hi;have he:=MType.enc_eq p.types[i];have hx2:=xb MCon.enc p.types[i].cons k hk;have he2:=MCon.enc_eq p.types[i].cons[k];have hcl:=(hs.1.2 _ (List.getElem_mem hi)).2.1;obtain ⟨nm,hnm⟩:∃ nm,nm=p.types[i].cons[k].name:=⟨_,rfl⟩;rw [<- hnm] at he2
 refine FI PM Tryz.func72 Tryz.ntmps72 [] rfl rfl ?_
 (have hWf:=w4 @hx @he @hx2 @he2;repeat' (first|refine zS ?_|refine zI ?_ ?_|exact zF0|refine zD fun hb=>?_|exact zC|refine zT ?_|fail))
 refine xd (fun n σ=>∃ j:Nat,j<=i+1/\n=i+1 - j/\(∀ (a:Nat) (ha:a<p.types.length) (m:Nat) (hm:m<p.types[a].cons.length),a<j->p.types[a].cons[m].name=nm->¬ (a<i\/m<k))/\σ.t 1=.s (.int .i64 i)/\σ.t 2=.s (.int .i64 k)/\σ.t 3=.bx 3 0/\σ.b 3=some (.box [.sl 3 (p.types.map MType.enc),.sl 6 (p.nodes.map MNode.enc)])/\σ.t 7=.s (.string nm)/\σ.t 8=.s (.int .i64 j)) (i+1) ⟨0,Nat.zero_le _,rfl,fun a _ _ _ h=>absurd h (Nat.not_lt_zero _),?_⟩ ?_
 ·simp only [go_sem,simprocAttr,Int.natCast_zero,hx,he,hx2,he2]
  done
 ·rintro n σ ⟨j,hj,rfl,hno,h1,h2,h3,b3,h7,h8⟩ K' hK
  by_cases hji:j<=i
  ·have hjl:j<p.types.length:=by omega
   have hxj:=xb MType.enc p.types j hjl;have hej:=MType.enc_eq p.types[j];have hcj:=(hs.1.2 _ (List.getElem_mem hjl)).2.1;have hle:decide ((j:Int)<=(i:Int))=true:=by simp;omega
   (have hWf:=w9 @h1 @h2 @h3 @b3 @h7 @h8 @hxj @hej @hle;repeat' (first|refine zS ?_|refine zI ?_ ?_|exact zF0|refine zD fun hb=>?_|exact zC|refine zT ?_|fail))
   refine xd (fun n σ=>∃ m:Nat,m<=p.types[j].cons.length/\n=p.types[j].cons.length - m/\(∀ (m':Nat) (hm:m'<p.types[j].cons.length),m'<m->p.types[j].cons[m'].name=nm->¬ (j<i\/m'<k))/\σ.t 1=.s (.int .i64 i)/\σ.t 2=.s (.int .i64 k)/\σ.t 3=.bx 3 0/\σ.b 3=some (.box [.sl 3 (p.types.map MType.enc),.sl 6 (p.nodes.map MNode.enc)])/\σ.t 7=.s (.string nm)/\σ.t 8=.s (.int .i64 j)/\σ.t 31=.sl 3 (p.types[j].cons.map MCon.enc)/\σ.t 32=.s (.int .i64 p.types[j].cons.length)/\σ.t 33=.s (.int .i64 m)) p.types[j].cons.length ⟨0,Nat.zero_le _,rfl,fun m' _ h=>absurd h (Nat.not_lt_zero _),?_⟩ ?_
   ·simp only [go_sem,simprocAttr,h1,h2,h3,b3,h7,h8,hxj,hej,Int.natCast_zero]
    done
   ·clear h1 h2 h3 b3 h7 h8
    rintro n σ ⟨m,hm,rfl,hno2,h1,h2,h3,b3,h7,h8,h31,h32,h33⟩ K2 hK2
    by_cases hml:m<p.types[j].cons.length
    ·have hxm:=xb MCon.enc p.types[j].cons m hml
     have hem:=MCon.enc_eq p.types[j].cons[m];have step:(p.types[j].cons[m].name=nm->¬ (j<i\/m<k))->∀ (m':Nat) (hm:m'<p.types[j].cons.length),m'<m+1->p.types[j].cons[m'].name=nm->¬ (j<i\/m'<k):=fun q m' hm' hlt=>by
      rcases Nat.lt_or_ge m' m with q2|q2
      ·exact hno2 m' hm' q2
      ·obtain rfl:m'=m:=by omega
       exact q
     by_cases hn:p.types[j].cons[m].name=nm
     ·have e1:(p.types[j].cons[m].name.toList==nm.toList)=true:=y5.2 hn
      by_cases hji2:j<i
      ·have e2:decide ((j:Int)<(i:Int))=true:=by simp;omega
       (have hWf:=w10 @h1 @h2 @h3 @b3 @h7 @h8 @h31 @h32 @h33 (ai @hxm<|ai @hem<|ai @e1<|@e2);repeat' (first|refine zS ?_|refine zI ?_ ?_|exact zF0|refine zD fun hb=>?_|exact zC|refine zT ?_|fail))
       exact ⟨true,rfl,fun _=>⟨j,hjl,m,hml,hi,hk,hji,by rw [hn,hnm],.inl hji2⟩,fun _=>rfl⟩
      ·have e2:decide ((j:Int)<(i:Int))=false:=by simp;omega
       by_cases hmk:m<k
       ·have e3:decide ((m:Int)<(k:Int))=true:=by simp;omega
        (have hWf:=w10 @h1 @h2 @h3 @b3 @h7 @h8 @h31 @h32 @h33 (ai @hxm<|ai @hem<|ai @e1<|ai @e2<|@e3);repeat' (first|refine zS ?_|refine zI ?_ ?_|exact zF0|refine zD fun hb=>?_|exact zC|refine zT ?_|fail))
        exact ⟨true,rfl,fun _=>⟨j,hjl,m,hml,hi,hk,hji,by rw [hn,hnm],.inr hmk⟩,fun _=>rfl⟩
       ·have e3:decide ((m:Int)<(k:Int))=false:=by simp;omega
        (have hWf:=w10 @h1 @h2 @h3 @b3 @h7 @h8 @h31 @h32 @h33 (ai @hxm<|ai @hem<|ai @e1<|ai @e2<|@e3);repeat' (first|refine zS ?_|refine zI ?_ ?_|exact zF0|refine zD fun hb=>?_|exact zC|refine zT ?_|fail))
        refine hK2 (p.types[j].cons.length - (m+1)) _ (by omega) ⟨m+1,by omega,rfl,step (fun _=>by omega),?_⟩
        simp only [go_sem,simprocAttr,h1,h2,h3,b3,h7,h8,h31,h32,h33,Int.natCast_succ]
        done
     ·have e1:(p.types[j].cons[m].name.toList==nm.toList)=false:=by
       cases q:(p.types[j].cons[m].name.toList==nm.toList) with
       | true=>exact absurd (y5.1 q) hn
       | false=>rfl
      (have hWf:=w10 @h1 @h2 @h3 @b3 @h7 @h8 @h31 @h32 @h33 (ai @hxm<|ai @hem<|@e1);repeat' (first|refine zS ?_|refine zI ?_ ?_|exact zF0|refine zD fun hb=>?_|exact zC|refine zT ?_|fail))
      refine hK2 (p.types[j].cons.length - (m+1)) _ (by omega) ⟨m+1,by omega,rfl,step (fun q=>absurd q hn),?_⟩
      simp only [go_sem,simprocAttr,h1,h2,h3,b3,h7,h8,h31,h32,h33,Int.natCast_succ]
      done
    ·obtain rfl:m=p.types[j].cons.length:=by omega
     (have hWf:=w9 @h1 @h2 @h3 @b3 @h7 @h8 @h31 @h32 @h33;repeat' (first|refine zS ?_|refine zI ?_ ?_|exact zF0|refine zD fun hb=>?_|exact zC|refine zT ?_|fail))
     refine hK (i+1 - (j+1)) _ (by omega) ⟨j+1,by omega,by omega,fun a ha mm hmm hlt=>?_,?_⟩
     ·rcases Nat.lt_or_ge a j with q|q
      ·exact hno a ha mm hmm q
      ·obtain rfl:a=j:=by omega
       exact hno2 mm hmm hmm
     ·simp only [go_sem,simprocAttr,h1,h2,h3,b3,h7,h8,Int.natCast_succ]
      done
  ·have hle:decide ((j:Int)<=(i:Int))=false:=by simp;omega
   (have hWf:=w7 @h1 @h2 @h3 @b3 @h7 @h8 @hle;repeat' (first|refine zS ?_|refine zI ?_ ?_|exact zF0|refine zD fun hb=>?_|exact zC|refine zT ?_|fail))
   refine ⟨false,rfl,fun h=>(by cases h),fun ⟨a,ha,m,hm,hi',hk',h4,h5,h6⟩=>?_⟩
   exact absurd h6 (hno a ha m hm (by omega) (by rw [h5,hnm]))
structure OkR(ts:List MType)(k:Nat)(t:MType):Prop where
 gv:gvM t.name<0
 nm:∀ u∈ts.take k,u.name≠t.name
 dup:∀ j,j<t.cons.length->¬ earM ts k j
 arg:∀ c∈t.cons,∀ x∈c.arg,x.name.toList≠[]->zw ts x=true
def AllR(ts:List MType):Prop:=∀ k (h:k<ts.length),OkR ts k ts[k]
theorem xb5(p:MProgram)(ho:p.ok)(hs:p.sm)(hp:yq p=true):FT 34 [.ag p.enc] (fun r _=>∃ z i:Int,r=.tup [.s (.int .i64 z),.s (.int .i64 i)]/\(z=0 ↔ AllR p.types)):=by
 have hc:=XX p ho hs;rw [hp,MProgram.enc_eq] at hc
 have hlt:=hs.1.1;have hknw:=fun x=>xcy p hlt x
 rw [MProgram.enc_eq] at hknw
 have hear:=xaX p hs;rw [MProgram.enc_eq] at hear
 have e0:(⟨#[]⟩:ByteArray).toList=[]:=by rw [ByteArray.toList_eq]
 rw [MProgram.enc_eq];refine FI PM Tryz.func34 Tryz.ntmps34 [(10,8,[],[],(lin [] [0,1,2,3,4,5,6,7]))] rfl rfl ?_
 iterate 1 (refine xj ?_;simp only [go_sem,simprocAttr];(have hWf:=f0;repeat' (first|refine zY ?_|refine zI ?_ ?_|exact zF1|refine zD fun hb=>?_|exact zC|refine zT ?_|fail)))
 refine y8 1 (.box [.sl 3 (p.types.map MType.enc),.sl 6 (p.nodes.map MNode.enc)]) (by simp only [go_sem,simprocAttr]) rfl ?_
 (have hWf:=f0;repeat' (first|refine zS ?_|refine zI ?_ ?_|refine zK hc ?_|exact zF0|refine zD fun hb=>?_|exact zC|refine zT ?_|fail))
 refine xd (fun n σ=>∃ k:Nat,k<=p.types.length/\n=p.types.length - k/\(∀ j (h:j<p.types.length),j<k->OkR p.types j p.types[j])/\σ.t 1=.pt [.sl 3 (p.types.map MType.enc),.sl 6 (p.nodes.map MNode.enc)]/\σ.t 17=.sl 3 (p.types.map MType.enc)/\σ.t 18=.s (.int .i64 p.types.length)/\σ.t 19=.s (.int .i64 k)) p.types.length ⟨0,Nat.zero_le _,rfl,fun j _ h=>absurd h (Nat.not_lt_zero _),?_⟩ ?_
 ·simp only [go_sem,simprocAttr,Int.natCast_zero]
  done
 ·rintro n σ ⟨k,hk,rfl,hok,h1,h17,h18,h19⟩ K' hK
  by_cases hlk:k<p.types.length
  ·obtain ⟨t,ht⟩:∃ t,t=p.types[k]:=⟨_,rfl⟩
   have hx:=xb MType.enc p.types k hlk;rw [<- ht] at hx
   have hte:=MType.enc_eq t;have hsm:=hs.1.2 t (by rw [ht];exact List.getElem_mem hlk)
   have hcl:t.cons.length<=1048576:=hsm.2.1;have hno:∀ z i:Int,z≠0->¬ OkR p.types k t->∃ z' i':Int,D.tup [.s (.int .i64 z),.s (.int .i64 i)]=D.tup [.s (.int .i64 z'),.s (.int .i64 i')]/\(z'=0 ↔ AllR p.types):=fun z i hz hn=>⟨z,i,rfl,fun q=>absurd q hz,fun q=>absurd (by rw [ht];exact q k hlk) hn⟩
   iterate 4 (refine xj ?_;simp only [go_sem,simprocAttr,h1,h17,h18,h19,hx,hte];(have hWf:=w6 @h1 @h17 @h18 @h19 @hx @hte;repeat' (first|refine zY ?_|refine zI ?_ ?_|exact zF1|refine zD fun hb=>?_|exact zC|refine zT ?_|fail)))
   refine y8 5 (.box [.s (.string t.name),.s (.int .i64 t.params),.sl 3 (t.cons.map MCon.enc)]) (by simp only [go_sem,simprocAttr,h1,h17,h18,h19,hx,hte]) rfl ?_
   (have hWf:=w6 @h1 @h17 @h18 @h19 @hx @hte;repeat' (first|refine zS ?_|refine zI ?_ ?_|refine zK (Vd t.name) ?_|exact zF0|refine zD fun hb=>?_|exact zC|refine zT ?_|fail))
   refine xd (fun n σ=>∃ (j:Nat) (b:Bool),j<=k/\n=k - j/\(b=true ↔ 0<=gvM t.name\/∃ u∈p.types.take j,u.name=t.name)/\σ.t 1=.pt [.sl 3 (p.types.map MType.enc),.sl 6 (p.nodes.map MNode.enc)]/\σ.t 4=.s (.int .i64 k)/\σ.t 5=.pt [.s (.string t.name),.s (.int .i64 t.params),.sl 3 (t.cons.map MCon.enc)]/\σ.t 6=.s (.bool b)/\σ.t 7=.s (.int .i64 j)/\σ.t 17=.sl 3 (p.types.map MType.enc)/\σ.t 18=.s (.int .i64 p.types.length)/\σ.t 19=.s (.int .i64 k)) k ⟨0,decide (gvM t.name ≥ 0),Nat.zero_le _,rfl,by simp,?_⟩ ?_
   ·simp only [go_sem,simprocAttr,h1,h17,h18,h19,hx,hte,Int.natCast_zero]
    done
   ·clear h1 h17 h18 h19
    rintro n σ ⟨j,b,hj,rfl,hbq,h1,h4,h5,h6,h7,h17,h18,h19⟩ K2 hK2
    by_cases hjk:j<k
    ·have hjl:j<p.types.length:=by omega
     have hxj:=xb MType.enc p.types j hjl;have hej:=MType.enc_eq p.types[j];have hts:p.types.take (j+1)=p.types.take j++[p.types[j]]:=List.take_succ_eq_append_getElem hjl
     by_cases hn:p.types[j].name=t.name
     ·have e1:(p.types[j].name.toList==t.name.toList)=true:=y5.2 hn
      (have hWf:=w10 @h1 @h4 @h5 @h6 @h7 @h17 @h18 @h19 @hxj (ai @hej<|@e1);repeat' (first|refine zS ?_|refine zI ?_ ?_|exact zF0|refine zD fun hb=>?_|exact zC|refine zT ?_|fail))
      refine hK2 (k - (j+1)) _ (by omega) ⟨j+1,true,by omega,rfl,?_,?_⟩
      ·exact ⟨fun _=>.inr ⟨p.types[j],by rw [hts];exact List.mem_append_right _ (List.mem_singleton.2 rfl),hn⟩,fun _=>rfl⟩
      ·simp only [go_sem,simprocAttr,h1,h4,h5,h6,h7,h17,h18,h19,Int.natCast_succ]
       done
     ·have e1:(p.types[j].name.toList==t.name.toList)=false:=by
       cases q:(p.types[j].name.toList==t.name.toList) with
       | true=>exact absurd (y5.1 q) hn
       | false=>rfl
      (have hWf:=w10 @h1 @h4 @h5 @h6 @h7 @h17 @h18 @h19 @hxj (ai @hej<|@e1);repeat' (first|refine zS ?_|refine zI ?_ ?_|exact zF0|refine zD fun hb=>?_|exact zC|refine zT ?_|fail))
      refine hK2 (k - (j+1)) _ (by omega) ⟨j+1,b,by omega,rfl,?_,?_⟩
      ·rw [hbq]
       constructor
       ·rintro (q|⟨u,q1,q2⟩)
        ·exact .inl q
        ·exact .inr ⟨u,by rw [hts];exact List.mem_append_left _ q1,q2⟩
       ·rintro (q|⟨u,q1,q2⟩)
        ·exact .inl q
        ·rw [hts] at q1
         rcases List.mem_append.1 q1 with q1|q1
         ·exact .inr ⟨u,q1,q2⟩
         ·rw [List.mem_singleton.1 q1] at q2;exact absurd q2 hn
      ·simp only [go_sem,simprocAttr,h1,h4,h5,h6,h7,h17,h18,h19,Int.natCast_succ]
       done
    ·obtain rfl:j=k:=by omega
     cases b with
     | true=>
      (have hWf:=w8 @h1 @h4 @h5 @h6 @h7 @h17 @h18 @h19;repeat' (first|refine zS ?_|refine zI ?_ ?_|exact zF0|refine zD fun hb=>?_|exact zC|refine zT ?_|fail))
      refine hno _ _ (by decide) fun q=>?_
      rcases hbq.1 rfl with h|⟨u,hu,hn⟩
      ·have:=q.gv;omega
      ·exact q.nm u hu hn
     | false=>
      have hb0:¬ (0<=gvM t.name\/∃ u∈p.types.take j,u.name=t.name):=fun q=>by have:=hbq.2 q;cases this
      (have hWf:=w8 @h1 @h4 @h5 @h6 @h7 @h17 @h18 @h19;repeat' (first|refine zS ?_|refine zI ?_ ?_|exact zF0|refine zD fun hb=>?_|exact zC|refine zT ?_|fail))
      refine xd (fun n σ=>∃ m:Nat,m<=t.cons.length/\n=t.cons.length - m/\(∀ i,i<m->¬ earM p.types j i)/\σ.t 1=.pt [.sl 3 (p.types.map MType.enc),.sl 6 (p.nodes.map MNode.enc)]/\σ.t 4=.s (.int .i64 j)/\σ.t 5=.pt [.s (.string t.name),.s (.int .i64 t.params),.sl 3 (t.cons.map MCon.enc)]/\σ.t 17=.sl 3 (p.types.map MType.enc)/\σ.t 18=.s (.int .i64 p.types.length)/\σ.t 19=.s (.int .i64 j)/\σ.t 46=.s (.int .i64 t.cons.length)/\σ.t 47=.s (.int .i64 m)) t.cons.length ⟨0,Nat.zero_le _,rfl,fun i h=>absurd h (Nat.not_lt_zero _),?_⟩ ?_
      ·simp only [go_sem,simprocAttr,h1,h4,h5,h6,h7,h17,h18,h19,Int.natCast_zero]
       done
      ·clear h1 h4 h5 h6 h7 h17 h18 h19
       rintro n σ ⟨m,hm,rfl,hea,h1,h4,h5,h17,h18,h19,h46,h47⟩ K3 hK3
       by_cases hml:m<t.cons.length
       ·have hE:=hear j m hlk (by rw [<- ht];exact hml)
        (have hWf:=w8 @h1 @h4 @h5 @h17 @h18 @h19 @h46 @h47;repeat' (first|refine zS ?_|refine zI ?_ ?_|((with_reducible apply xc);refine xh (hE) ?_;rintro _ _ ⟨b,rfl,hbe⟩)|refine zU hE ?_|exact zF0|refine zD fun hb=>?_|exact zC|refine zT ?_|fail))
        ·exact hno _ _ (by decide) fun q=>q.dup m hml (hbe.1 (by assumption))
        ·have hbt:b=false:=by assumption
         refine hK3 (t.cons.length - (m+1)) _ (by omega) ⟨m+1,by omega,rfl,fun i h=>?_,?_⟩
         ·rcases Nat.lt_or_ge i m with q|q
          ·exact hea i q
          ·obtain rfl:i=m:=by omega
           exact fun q2=>by have:=hbe.2 q2;rw [hbt] at this;cases this
         ·simp only [go_sem,simprocAttr,h1,h4,h5,h17,h18,h19,h46,h47,Int.natCast_succ]
          done
       ·obtain rfl:m=t.cons.length:=by omega
        (have hWf:=w8 @h1 @h4 @h5 @h17 @h18 @h19 @h46 @h47;repeat' (first|refine zS ?_|refine zI ?_ ?_|exact zF0|refine zD fun hb=>?_|exact zC|refine zT ?_|fail))
        refine xd (fun n σ=>∃ m:Nat,m<=t.cons.length/\n=t.cons.length - m/\(∀ i (h:i<t.cons.length),i<m->∀ x∈t.cons[i].arg,x.name.toList≠[]->zw p.types x=true)/\σ.t 1=.pt [.sl 3 (p.types.map MType.enc),.sl 6 (p.nodes.map MNode.enc)]/\σ.t 4=.s (.int .i64 j)/\σ.t 17=.sl 3 (p.types.map MType.enc)/\σ.t 18=.s (.int .i64 p.types.length)/\σ.t 19=.s (.int .i64 j)/\σ.t 57=.sl 3 (t.cons.map MCon.enc)/\σ.t 58=.s (.int .i64 t.cons.length)/\σ.t 59=.s (.int .i64 m)) t.cons.length ⟨0,Nat.zero_le _,rfl,fun i _ h=>absurd h (Nat.not_lt_zero _),?_⟩ ?_
        ·simp only [go_sem,simprocAttr,h1,h4,h5,h17,h18,h19,Int.natCast_zero]
         done
        ·clear h1 h4 h5 h17 h18 h19 h46 h47
         rintro n σ ⟨m,hm,rfl,harg,h1,h4,h17,h18,h19,h57,h58,h59⟩ K4 hK4
         by_cases hml:m<t.cons.length
         ·have hxc:=xb MCon.enc t.cons m hml
          have hce:=MCon.enc_eq t.cons[m];have hal:t.cons[m].arg.length<=1048576:=(hsm.2.2 _ (List.getElem_mem hml)).2.1
          (have hWf:=w10 @h1 @h4 @h17 @h18 @h19 @h57 @h58 @h59 @hxc @hce;repeat' (first|refine zS ?_|refine zI ?_ ?_|exact zF0|refine zD fun hb=>?_|exact zC|refine zT ?_|fail))
          refine xd (fun n σ=>∃ q:Nat,q<=t.cons[m].arg.length/\n=t.cons[m].arg.length - q/\(∀ x∈t.cons[m].arg.take q,x.name.toList≠[]->zw p.types x=true)/\σ.t 1=.pt [.sl 3 (p.types.map MType.enc),.sl 6 (p.nodes.map MNode.enc)]/\σ.t 4=.s (.int .i64 j)/\σ.t 17=.sl 3 (p.types.map MType.enc)/\σ.t 18=.s (.int .i64 p.types.length)/\σ.t 19=.s (.int .i64 j)/\σ.t 57=.sl 3 (t.cons.map MCon.enc)/\σ.t 58=.s (.int .i64 t.cons.length)/\σ.t 59=.s (.int .i64 m)/\σ.t 65=.sl 3 (t.cons[m].arg.map TyI.enc)/\σ.t 66=.s (.int .i64 t.cons[m].arg.length)/\σ.t 67=.s (.int .i64 q)) t.cons[m].arg.length ⟨0,Nat.zero_le _,rfl,by simp,?_⟩ ?_
          ·simp only [go_sem,simprocAttr,h1,h4,h17,h18,h19,h57,h58,h59,hxc,hce,Int.natCast_zero]
           done
          ·clear h1 h4 h17 h18 h19 h57 h58 h59
           rintro n σ ⟨q,hq,rfl,hkn,h1,h4,h17,h18,h19,h57,h58,h59,h65,h66,h67⟩ K5 hK5
           by_cases hql:q<t.cons[m].arg.length
           ·have hxx:=xb TyI.enc t.cons[m].arg q hql
            have hxe:=TyI.enc_eq t.cons[m].arg[q];have hkx:=hknw t.cons[m].arg[q];have stp:(t.cons[m].arg[q].name.toList≠[]->zw p.types t.cons[m].arg[q]=true)->∀ x∈t.cons[m].arg.take (q+1),x.name.toList≠[]->zw p.types x=true:=fun g x hx=>by
             rw [List.take_succ_eq_append_getElem hql] at hx
             rcases List.mem_append.1 hx with hx|hx
             ·exact hkn x hx
             ·rw [List.mem_singleton.1 hx];exact g
            by_cases hn:t.cons[m].arg[q].name.toList=[]
            ·have e1:(t.cons[m].arg[q].name.toList==[])=true:=by simp [hn]
             (have hWf:=w10 @h1 @h4 @h17 @h18 @h19 @h57 @h58 @h59 @h65 (ai @h66<|ai @h67<|ai @hxx<|ai @hxe<|ai @e1<|@e0);repeat' (first|refine zS ?_|refine zI ?_ ?_|refine zK hkx ?_|exact zF0|refine zD fun hb=>?_|exact zC|refine zT ?_|fail))
             refine hK5 (t.cons[m].arg.length - (q+1)) _ (by omega) ⟨q+1,by omega,rfl,stp (fun g=>absurd hn g),?_⟩
             simp only [go_sem,simprocAttr,h1,h4,h17,h18,h19,h57,h58,h59,h65,h66,Int.natCast_succ]
             done
            ·have e1:(t.cons[m].arg[q].name.toList==[])=false:=by simpa using hn
             rcases Bool.eq_false_or_eq_true (zw p.types t.cons[m].arg[q]) with g|g
             ·rw [g] at hkx
              (have hWf:=w10 @h1 @h4 @h17 @h18 @h19 @h57 @h58 @h59 @h65 (ai @h66<|ai @h67<|ai @hxx<|ai @hxe<|ai @e1<|@e0);repeat' (first|refine zS ?_|refine zI ?_ ?_|refine zK hkx ?_|exact zF0|refine zD fun hb=>?_|exact zC|refine zT ?_|fail))
              refine hK5 (t.cons[m].arg.length - (q+1)) _ (by omega) ⟨q+1,by omega,rfl,stp (fun _=>g),?_⟩
              simp only [go_sem,simprocAttr,h1,h4,h17,h18,h19,h57,h58,h59,h65,h66,Int.natCast_succ]
              done
             ·rw [g] at hkx
              (have hWf:=w10 @h1 @h4 @h17 @h18 @h19 @h57 @h58 @h59 @h65 (ai @h66<|ai @h67<|ai @hxx<|ai @hxe<|ai @e1<|@e0);repeat' (first|refine zS ?_|refine zI ?_ ?_|refine zK hkx ?_|exact zF0|refine zD fun hb=>?_|exact zC|refine zT ?_|fail))
              exact hno _ _ (by decide) fun w=>by have:=w.arg _ (List.getElem_mem hml) _ (List.getElem_mem hql) hn;rw [g] at this;cases this
           ·obtain rfl:q=t.cons[m].arg.length:=by omega
            rw [List.take_length] at hkn
            (have hWf:=w10 @h1 @h4 @h17 @h18 @h19 @h57 @h58 @h59 @h65 (ai @h66<|@h67);repeat' (first|refine zS ?_|refine zI ?_ ?_|exact zF0|refine zD fun hb=>?_|exact zC|refine zT ?_|fail))
            refine hK4 (t.cons.length - (m+1)) _ (by omega) ⟨m+1,by omega,rfl,fun i h hi=>?_,?_⟩
            ·rcases Nat.lt_or_ge i m with w|w
             ·exact harg i h w
             ·obtain rfl:i=m:=by omega
              exact hkn
            ·simp only [go_sem,simprocAttr,h1,h4,h17,h18,h19,h57,h58,Int.natCast_succ]
             done
         ·obtain rfl:m=t.cons.length:=by omega
          (have hWf:=w8 @h1 @h4 @h17 @h18 @h19 @h57 @h58 @h59;repeat' (first|refine zS ?_|refine zI ?_ ?_|exact zF0|refine zD fun hb=>?_|exact zC|refine zT ?_|fail))
          refine hK (p.types.length - (j+1)) _ (by omega) ⟨j+1,by omega,rfl,fun i h hi=>?_,?_⟩
          ·rcases Nat.lt_or_ge i j with w|w
           ·exact hok i h w
           ·obtain rfl:i=j:=by omega
            rw [<- ht];exact ⟨by omega,fun u hu hn=>hb0 (.inr ⟨u,hu,hn⟩),fun i h=>hea i h,fun c hc=>by
             obtain ⟨i,hi,rfl⟩:=List.getElem_of_mem hc;exact harg i hi hi⟩
          ·simp only [go_sem,simprocAttr,h1,h4,h17,h18,h19,Int.natCast_succ]
           done
  ·obtain rfl:k=p.types.length:=by omega
   (have hWf:=w4 @h1 @h17 @h18 @h19;repeat' (first|refine zS ?_|refine zI ?_ ?_|exact zF0|refine zD fun hb=>?_|exact zC|refine zT ?_|fail))
   exact ⟨0,0,rfl,⟨fun _ j h=>hok j h h,fun _=>rfl⟩⟩
end
section
theorem nameM_gv{s:ByteArray}(h:yn s=true):(gvM s<0 ↔ inL s preL=false):=by
 unfold yn at h
 rw [Bool.and_eq_true,Bool.and_eq_true] at h
 obtain ⟨⟨hw,hh⟩,hk⟩:=h;have key:∀ b:ByteArray,s=b ↔ s.toList=b.toList:=fun b=>⟨fun e=>by rw [e],fun e=>y5.1 (beq_iff_eq.2 e)⟩
 have hr:s.toList≠[114,101,102]:=fun e=>by
  have e2:s=⟨#[114,101,102]⟩:=(key _).2 (by rw [e,lr_t])
  rw [e2] at hk;revert hk;decide
 have ha:s.toList≠[45,62]:=fun e=>by
  have e2:s=⟨#[45,62]⟩:=(key _).2 (by rw [e,la_t])
  rw [e2] at hh;revert hh;decide
 have hm:s.toList≠[42]:=fun e=>by
  have e2:s=⟨#[42]⟩:=(key _).2 (by rw [e,lm_t])
  rw [e2] at hh;revert hh;decide
 have hp:inL s preL=true ↔ (s.toList=[105,110,116]\/s.toList=[98,111,111,108]\/s.toList=[115,116,114,105,110,103]\/s.toList=[117,110,105,116]\/s.toList=[108,105,115,116]):=by
  rw [uI];unfold preL;simp only [List.mem_cons,List.not_mem_nil,or_false,key,li_t,lb_t,ls_t,lu_t,ll_t]
 rw [Bool.eq_false_iff,Ne,hp];unfold gvM
 by_cases h1:s.toList=[105,110,116]\/s.toList=[98,111,111,108]\/s.toList=[115,116,114,105,110,103]\/s.toList=[117,110,105,116]
 ·rw [if_pos h1]
  refine ⟨fun q=>absurd q (by decide),fun q=>absurd ?_ q⟩
  rcases h1 with h|h|h|h<;>simp [h]
 ·rw [if_neg h1]
  by_cases h2:s.toList=[108,105,115,116]\/s.toList=[114,101,102]
  ·rw [if_pos h2]
   refine ⟨fun q=>absurd q (by decide),fun q=>absurd ?_ q⟩
   rcases h2 with h|h
   ·simp [h]
   ·exact absurd h hr
  ·rw [if_neg h2,if_neg (by simp [ha,hm])]
   simp only [not_or] at h1 h2
   simp [h1,h2]
theorem dup_iff(ts:List MType)(k j:Nat)(hk:k<ts.length)(hj:j<ts[k].cons.length):inL ts[k].cons[j].name (accN (ts.take k)++yO (ts[k].cons.take j))=false ↔ ¬ earM ts k j:=by
 rw [Bool.eq_false_iff,Ne,uI,List.mem_append,accN_mem];refine not_congr ⟨?_,?_⟩
 ·rintro (⟨t,ht,c,hc,e⟩|h)
  ·obtain ⟨i,hi,rfl⟩:=List.getElem_of_mem ht
   obtain ⟨m,hm,rfl⟩:=List.getElem_of_mem hc;have hi2:i<k/\i<ts.length:=by rw [List.length_take] at hi;omega
   simp only [List.getElem_take] at e hm
   exact ⟨i,hi2.2,m,hm,hk,hj,by omega,e,.inl hi2.1⟩
  ·unfold yO at h
   obtain ⟨c,hc,e⟩:=List.mem_map.1 h;obtain ⟨m,hm,rfl⟩:=List.getElem_of_mem hc;have hm2:m<j/\m<ts[k].cons.length:=by rw [List.length_take] at hm;omega
   simp only [List.getElem_take] at e
   exact ⟨k,hk,m,hm2.2,hk,hj,Nat.le_refl _,e,.inr (by omega)⟩
 ·rintro ⟨i,hi,m,hm,_,_,hle,e,h⟩
  by_cases hik:i<k
  ·refine .inl ⟨ts[i],?_,ts[i].cons[m],List.getElem_mem _,e⟩
   have hl:i<(ts.take k).length:=by rw [List.length_take];omega
   have:=List.getElem_mem hl
   rwa [List.getElem_take] at this
  ·obtain rfl:i=k:=by omega
   refine .inr ?_;unfold yO;rw [List.mem_map];have hl:m<(ts[i].cons.take j).length:=by rw [List.length_take];omega
   have:=List.getElem_mem hl;rw [List.getElem_take] at this
   exact ⟨_,this,e⟩
theorem known_eq(ts:List MType)(x:TyI)(har:0<=x.ar)(hg:∀ t∈ts,gvM t.name<0):wd ts x=zw ts x:=by
 unfold wd zw
 by_cases h:0<=gvM x.name
 ·rw [if_pos h]
  have:ts.any (isTy x)=false:=by
   rw [List.any_eq_false];intro t ht hb;unfold isTy at hb
   rw [Bool.and_eq_true] at hb
   have:=y5.1 hb.1;have h2:=hg t ht;rw [this] at h2;omega
  rw [this,Bool.false_or,Bool.beq_comm]
 ·rw [if_neg h]
  have:(gvM x.name==x.ar)=false:=by rw [beq_eq_false_iff_ne];omega
  rw [this,Bool.or_false]
theorem item_ar{x:TyI}(h:xR x=true):0<=x.ar:=(Y0 h).1
theorem con_ar{p:MProgram}(hp:yq p=true){t:MType}(ht:t∈p.types){c:MCon}(hc:c∈t.cons){x:TyI}(hx:x∈c.arg):0<=x.ar:=by
 simp only [yq,Bool.and_eq_true,List.all_eq_true] at hp
 have h1:=hp.1.1.2 t ht;simp only [yI,Bool.and_eq_true,List.all_eq_true] at h1
 have h2:=h1.2 c hc;unfold ye at h2
 rw [Bool.and_eq_true] at h2
 have h3:=h2.2;split at h3
 ·simp only [Bool.and_eq_true] at h3
  have h4:=h3.1;unfold wc y7 at h4
  simp only [Bool.and_eq_true,List.all_eq_true] at h4
  exact item_ar (h4.2.1 x hx)
 ·have:c.arg.length=0:=by simpa using h3
  rw [List.length_eq_zero_iff.1 this] at hx
  exact absurd hx List.not_mem_nil
theorem Qh{p:MProgram}(hp:yq p=true){t:MType}(ht:t∈p.types):yn t.name=true:=by
 simp only [yq,Bool.and_eq_true,List.all_eq_true] at hp
 have h1:=hp.1.1.2 t ht;simp only [yI,Bool.and_eq_true] at h1
 exact h1.1.1.1.1.1
theorem Zw{ts:List MType}{k:Nat}{t:MType}(hn:yn t.name=true):bad11 ts k t=false ↔ gvM t.name<0/\∀ u∈ts.take k,u.name≠t.name:=by
 rw [nameM_gv hn];unfold bad11;rw [Bool.or_eq_false_iff,List.any_eq_false,And.comm];refine and_congr_right fun _=>⟨fun h u hu e=>h u hu (y5.2 e),fun h u hu e=>h u hu (y5.1 e)⟩
theorem all_IR{p:MProgram}(hp:yq p=true):AllI p.types ↔ AllR p.types:=by
 have gv:∀ (P:(∀ k (h:k<p.types.length),gvM p.types[k].name<0)) (t:MType),t∈p.types->gvM t.name<0:=by
  intro P t ht;obtain ⟨i,hi,rfl⟩:=List.getElem_of_mem ht;exact P i hi
 have arg:(∀ t∈p.types,gvM t.name<0)->∀ k (h:k<p.types.length),(∀ c∈p.types[k].cons,c.arg.any (uV p.types)=false) ↔ ∀ c∈p.types[k].cons,∀ x∈c.arg,x.name.toList≠[]->zw p.types x=true:=by
  intro hg k h;refine forall_congr' fun c=>forall_congr' fun hc=>?_
  rw [List.any_eq_false];refine forall_congr' fun x=>forall_congr' fun hx=>?_
  rw [<- known_eq p.types x (con_ar hp (List.getElem_mem h) hc hx) hg];unfold uV;cases e:wd p.types x<;>simp
 constructor
 ·intro h
  have hg:=gv fun k hk=>((Zw (Qh hp (List.getElem_mem hk))).1 (h k hk).nm).1
  intro k hk;have o:=h k hk;have b:=(Zw (Qh hp (List.getElem_mem hk))).1 o.nm;exact ⟨b.1,b.2,fun j hj=>(dup_iff p.types k j hk hj).1 (o.dup j hj),(arg hg k hk).1 o.arg⟩
 ·intro h
  have hg:=gv fun k hk=>(h k hk).gv
  intro k hk;have o:=h k hk;exact ⟨(Zw (Qh hp (List.getElem_mem hk))).2 ⟨o.gv,o.nm⟩,fun j hj=>(dup_iff p.types k j hk hj).2 (o.dup j hj),(arg hg k hk).2 o.arg⟩
end
section
open Go.RowKit
def parV(n:Nat):List TyI:=(List.range n).map fun v=>⟨(v:Nat),⟨#[]⟩,0⟩
def ownT(t:MType):List TyI:=⟨0,t.name,t.params⟩::parV t.params.toNat
def yw:List TyI:=[⟨0,⟨#[108,105,115,116]⟩,1⟩,⟨0,⟨#[]⟩,0⟩]
def uq:List TyI:=[⟨0,⟨#[42]⟩,2⟩,⟨0,⟨#[]⟩,0⟩]
def vH:List TyI:=[⟨0,⟨#[98,111,111,108]⟩,0⟩]
def xW(ts:List MType)(s:ByteArray):Option (MType×MCon):=(ts.flatMap fun t=>t.cons.map fun c=>(t,c)).find? fun q=>q.2.name.toList==s.toList
def argT(c:MCon):List TyI:=if c.has=true then c.arg else []
def xA(ts:List MType)(s:ByteArray):Option (List TyI×List TyI×Int):=
 if s.toList=[116,114,117,101]\/s.toList=[102,97,108,115,101] then some (vH,[],0)
 else if s.toList=[91,93] then some (yw,[],1)
 else if s.toList=[58,58] then some (yw,uq++yw,1)
 else (xW ts s).map fun q=>(ownT q.1,argT q.2,q.1.params)
def Y4(l:List TyI):D:=if l=[] then .nil else .sl 3 (l.map TyI.enc)
def conD:Option (List TyI×List TyI×Int)->D
 | none=>.tup [.nil,.nil,.s (.int .i64 0),.s (.bool false)]
 | some (o,a,n)=>.tup [.sl 3 (o.map TyI.enc),Y4 a,.s (.int .i64 n),.s (.bool true)]
theorem lt_t:(⟨#[116,114,117,101]⟩:ByteArray).toList=[116,114,117,101]:=by rw [ByteArray.toList_eq]
theorem lf_t:(⟨#[102,97,108,115,101]⟩:ByteArray).toList=[102,97,108,115,101]:=by rw [ByteArray.toList_eq]
theorem ua:(⟨#[91,93]⟩:ByteArray).toList=[91,93]:=by rw [ByteArray.toList_eq]
theorem uo:(⟨#[58,58]⟩:ByteArray).toList=[58,58]:=by rw [ByteArray.toList_eq]
theorem Um(s:ByteArray):FT 98 [.s (.string s)] (fun r _=>r=.osl 143 3 ([(⟨0,s,0⟩:TyI)].map TyI.own)):=by
 refine FI PM Tryz.func98 Tryz.ntmps98 [] rfl rfl ?_
 (have hWf:=f0;repeat' (first|refine zS ?_|refine zI ?_ ?_|exact zF0|refine zD fun hb=>?_|exact zC|refine zT ?_|fail))
 all_goals rfl
theorem c_conOfB(ts:List MType)(s:ByteArray)(h:s.toList=[116,114,117,101]\/s.toList=[102,97,108,115,101]\/s.toList=[91,93]\/s.toList=[58,58]):FT 148 [.sl 3 (ts.map MType.enc),.s (.string s)] (fun r _=>frA r=conD (xA ts s)):=by
 have hs:=Um ⟨#[98,111,111,108]⟩;have hc:FT 100 [.sl 1 [[.sl 3 [[.s (.int .i64 0),.s (.string ⟨#[42]⟩),.s (.int .i64 2)],[.s (.int .i64 0),.s (.string ⟨#[]⟩),.s (.int .i64 0)]]],[.sl 3 [[.s (.int .i64 0),.s (.string ⟨#[108,105,115,116]⟩),.s (.int .i64 1)],[.s (.int .i64 0),.s (.string ⟨#[]⟩),.s (.int .i64 0)]]]]] (fun r _=>r=.osl 143 3 ([[.s (.int .i64 0),.s (.string ⟨#[42]⟩),.s (.int .i64 2)],[.s (.int .i64 0),.s (.string ⟨#[]⟩),.s (.int .i64 0)]]++[[.s (.int .i64 0),.s (.string ⟨#[108,105,115,116]⟩),.s (.int .i64 1)],[.s (.int .i64 0),.s (.string ⟨#[]⟩),.s (.int .i64 0)]])):=xaS [uq,yw] (by decide) (by decide)
 have cs:∃ b1 b2 b3 b4:Bool,(s.toList==[116,114,117,101])=b1/\(s.toList==[102,97,108,115,101])=b2/\(s.toList==[91,93])=b3/\(s.toList==[58,58])=b4/\((b1=true/\xA ts s=some (vH,[],0))\/(b1=false/\b2=true/\xA ts s=some (vH,[],0))\/(b1=false/\b2=false/\b3=true/\xA ts s=some (yw,[],1))\/(b1=false/\b2=false/\b3=false/\b4=true/\xA ts s=some (yw,uq++yw,1))):=by
  refine ⟨_,_,_,_,rfl,rfl,rfl,rfl,?_⟩;rcases h with h|h|h|h<;>unfold xA<;>rw [h]
  ·exact .inl ⟨by decide,by simp⟩
  ·exact .inr (.inl ⟨by decide,by decide,by simp⟩)
  ·exact .inr (.inr (.inl ⟨by decide,by decide,by decide,by simp⟩))
  ·exact .inr (.inr (.inr ⟨by decide,by decide,by decide,by decide,by simp⟩))
 obtain ⟨b1,b2,b3,b4,e1,e2,e3,e4,⟨rfl,hm⟩|⟨rfl,rfl,hm⟩|⟨rfl,rfl,rfl,hm⟩|⟨rfl,rfl,rfl,rfl,hm⟩⟩:=cs
 all_goals
  rw [hm];clear h hm;refine FI PM Tryz.func148 Tryz.ntmps148 [(24,5,[],[],(lin [] [0,1,2,3,4])),(25,8,[],[],(lin [] [0,1,2,3,4,5,6,7]))] rfl rfl ?_
  iterate 2 (refine xj ?_;simp only [go_sem,simprocAttr];(have hWf:=f0;repeat' (first|refine zY ?_|refine zI ?_ ?_|exact zF1|refine zD fun hb=>?_|exact zC|refine zT ?_|fail)))
  refine y8 17 (.arr 143 3 [[.s (.int .i64 0),.s (.string ⟨#[108,105,115,116]⟩),.s (.int .i64 1)],[.s (.int .i64 0),.s (.string ⟨#[]⟩),.s (.int .i64 0)]]) (by simp only [go_sem,simprocAttr]) rfl ?_
  (have hWf:=w8 @e1 @e2 @e3 @e4 @lt_t @lf_t @ua @uo;repeat' (first|refine zS ?_|refine zI ?_ ?_|refine zK hs ?_|refine zK hc ?_|exact zF0|refine zD fun hb=>?_|exact zC|refine zT ?_|fail))
  all_goals first|rfl|exact xP TyI.pure _ _ (uq++yw)
theorem ZG(ts:List MType)(s:ByteArray)(k:Nat)(hk:k<ts.length)(h:xW (ts.take k) s=none)(hn:∀ c∈ts[k].cons,(c.name.toList==s.toList)=false):xW (ts.take (k+1)) s=none:=by
 unfold xW at *
 rw [List.take_succ_eq_append_getElem hk,List.flatMap_append,List.find?_append,h];simp only [List.flatMap_cons,List.flatMap_nil,List.append_nil,Option.none_or];rw [List.find?_eq_none];intro q hq;obtain ⟨c,hc,rfl⟩:=List.mem_map.1 hq
 simp [hn c hc]
theorem W3(ts:List MType)(s:ByteArray)(k:Nat)(hk:k<ts.length)(h:xW (ts.take k) s=none)(j:Nat)(hj:j<ts[k].cons.length)(hn:∀ c∈ts[k].cons.take j,(c.name.toList==s.toList)=false)(he:(ts[k].cons[j].name.toList==s.toList)=true):xW ts s=some (ts[k],ts[k].cons[j]):=by
 unfold xW at *
 have e1:ts=ts.take k++ts[k]::ts.drop (k+1):=by rw [<- List.drop_eq_getElem_cons hk,List.take_append_drop]
 have e2:ts[k].cons=ts[k].cons.take j++ts[k].cons[j]::ts[k].cons.drop (j+1):=by rw [<- List.drop_eq_getElem_cons hj,List.take_append_drop]
 have e3:∀ (t:MType) (a:List MCon) (c:MCon) (b:List MCon),t.cons=a++c::b->(∀ x∈a,(x.name.toList==s.toList)=false)->(c.name.toList==s.toList)=true->(t.cons.map fun c=>(t,c)).find? (fun q=>q.2.name.toList==s.toList)=some (t,c):=by
  intro t a c b e q1 q2;rw [e,List.map_append,List.find?_append,List.find?_eq_none.2 (by intro q hq;obtain ⟨x,hx,rfl⟩:=List.mem_map.1 hq;simp [q1 x hx]),Option.none_or,List.map_cons,List.find?_cons,q2]
 have e4:=e3 ts[k] _ _ _ e2 hn he;have e5:ts.flatMap (fun t=>t.cons.map fun c=>(t,c))=(ts.take k).flatMap (fun t=>t.cons.map fun c=>(t,c))++((ts[k].cons.map fun c=>(ts[k],c))++(ts.drop (k+1)).flatMap (fun t=>t.cons.map fun c=>(t,c))):=by
  conv=>lhs;rw [e1]
  rw [List.flatMap_append,List.flatMap_cons]
 rw [e5,List.find?_append,h,Option.none_or,List.find?_append,e4];rfl
theorem ZZ(v:Nat):parV (v+1)=parV v++[⟨(v:Nat),⟨#[]⟩,0⟩]:=by unfold parV;rw [List.range_succ,List.map_append];rfl
theorem xbD(v:Nat):(parV v).length=v:=by unfold parV;rw [List.length_map,List.length_range]
theorem UN(t:MType)(v:Nat)(hl:(parV v).length=v):List.take (1+v) (TyI.own ⟨0,t.name,t.params⟩::(parV v).map TyI.own)=TyI.own ⟨0,t.name,t.params⟩::(parV v).map TyI.own:=
 List.take_of_length_le (by simp only [List.length_cons,List.length_map,hl];omega)
theorem own_frz(t:MType)(v:Nat)(hv:t.params=v):xu (TyI.own ⟨0,t.name,t.params⟩::(parV v).map TyI.own)=(ownT t).map TyI.enc:=by
 have e:t.params.toNat=v:=by omega
 unfold ownT;rw [e];exact TyI.frzS (⟨0,t.name,t.params⟩::parV v)
theorem UF{l:List TyI}(h:l≠[]):Y4 l=.sl 3 (l.map TyI.enc):=by unfold Y4;rw [if_neg h]
theorem c_conOfT(ts:List MType)(s:ByteArray)(h:¬ (s.toList=[116,114,117,101]\/s.toList=[102,97,108,115,101]\/s.toList=[91,93]\/s.toList=[58,58]))(hl:ts.length<=1048576)(hcl:∀ t∈ts,t.cons.length<=1048576)(hpar:∀ t∈ts,0<=t.params/\t.params<=2)(hne:∀ t∈ts,∀ c∈t.cons,c.has=true->c.arg≠[]):FT 148 [.sl 3 (ts.map MType.enc),.s (.string s)] (fun r _=>frA r=conD (xA ts s)):=by
 simp only [not_or] at h
 have e1:(s.toList==[116,114,117,101])=false:=by simpa using h.1
 have e2:(s.toList==[102,97,108,115,101])=false:=by simpa using h.2.1
 have e3:(s.toList==[91,93])=false:=by simpa using h.2.2.1
 have e4:(s.toList==[58,58])=false:=by simpa using h.2.2.2
 have hm:xA ts s=(xW ts s).map fun q=>(ownT q.1,argT q.2,q.1.params):=by
  unfold xA;rw [if_neg (by simp [h.1,h.2.1]),if_neg h.2.2.1,if_neg h.2.2.2]
 rw [hm];clear h hm;refine FI PM Tryz.func148 Tryz.ntmps148 [(24,5,[],[],(lin [] [0,1,2,3,4])),(25,8,[],[],(lin [] [0,1,2,3,4,5,6,7]))] rfl rfl ?_
 (have hWf:=w8 @e1 @e2 @e3 @e4 @lt_t @lf_t @ua @uo;repeat' (first|refine zS ?_|refine zI ?_ ?_|exact zF0|refine zD fun hb=>?_|exact zC|refine zT ?_|fail))
 refine xd (fun n σ=>∃ k:Nat,k<=ts.length/\n=ts.length - k/\xW (ts.take k) s=none/\σ.t 1=.s (.string s)/\σ.t 35=.sl 3 (ts.map MType.enc)/\σ.t 36=.s (.int .i64 ts.length)/\σ.t 37=.s (.int .i64 k)) ts.length ⟨0,by omega,by omega,rfl,?_⟩ ?_
 ·simp only [go_sem,simprocAttr,Int.natCast_zero]
  done
 ·rintro n σ ⟨k,hk,rfl,hno,h1,h35,h36,h37⟩ K' hK
  by_cases hlt:k<ts.length
  ·have htm:=List.getElem_mem hlt
   have hx:=xb MType.enc ts k hlt;have hcl':=hcl _ htm;have hp':=hpar _ htm;have hne':=hne _ htm;have hstep:=ZG ts s k hlt hno;have hhit:=W3 ts s k hlt hno;clear hno hcl hpar hne;generalize ht:ts[k]=t at hx hcl' hp' hne' hstep hhit
   have hte:=MType.enc_eq t
   (have hWf:=w6 @h1 @h35 @h36 @h37 @hx @hte;repeat' (first|refine zS ?_|refine zI ?_ ?_|exact zF0|refine zD fun hb=>?_|exact zC|refine zT ?_|fail))
   refine xd (fun n σ=>∃ j:Nat,j<=t.cons.length/\n=t.cons.length - j/\(∀ c∈t.cons.take j,(c.name.toList==s.toList)=false)/\σ.t 1=.s (.string s)/\σ.t 35=.sl 3 (ts.map MType.enc)/\σ.t 36=.s (.int .i64 ts.length)/\σ.t 37=.s (.int .i64 k)/\σ.t 10=.bx 10 0/\σ.b 10=some (.box [.s (.string t.name),.s (.int .i64 t.params),.sl 3 (t.cons.map MCon.enc)])/\σ.t 42=.sl 3 (t.cons.map MCon.enc)/\σ.t 43=.s (.int .i64 t.cons.length)/\σ.t 44=.s (.int .i64 j)) t.cons.length ⟨0,by omega,by omega,by simp,?_⟩ ?_
   ·simp only [go_sem,simprocAttr,h1,h35,h36,h37,Int.natCast_zero]
    done
   ·rintro n σ ⟨j,hj,rfl,hnj,g1,g35,g36,g37,g10,b10,g42,g43,g44⟩ K'' hK''
    by_cases hlj:j<t.cons.length
    ·have hy:=xb MCon.enc t.cons j hlj
     have hhit':=hhit j hlj hnj;have hne2:=hne' _ (List.getElem_mem hlj);have htk:=List.take_succ_eq_append_getElem hlj;generalize hc:t.cons[j]=c at hy hhit' hne2 htk
     have hce:=MCon.enc_eq c;cases e5:(c.name.toList==s.toList) with
     | false=>
      (have hWf:=w10 @g1 @g35 @g36 @g37 @g10 @b10 @g42 @g43 @g44 (ai @hy<|ai @hce<|@e5);repeat' (first|refine zS ?_|refine zI ?_ ?_|exact zF0|refine zD fun hb=>?_|exact zC|refine zT ?_|fail))
      refine hK'' (t.cons.length - (j+1)) _ (by omega) ⟨j+1,by omega,rfl,(by
       rw [htk];intro x hx2;rcases List.mem_append.1 hx2 with q|q
       ·exact hnj x q
       ·rw [List.mem_singleton.1 q];exact e5),?_⟩
      simp only [go_sem,simprocAttr,g1,g35,g36,g37,g10,b10,g42,g43,g44,Int.natCast_succ]
      done
     | true=>
      have hf:=hhit' e5;rw [hf];clear hf hhit hhit' hstep hK hK'';obtain ⟨pn,hpn⟩:∃ pn:Nat,t.params=pn:=⟨t.params.toNat,by omega⟩
      (have hWf:=w10 @g1 @g35 @g36 @g37 @g10 @b10 @g42 @g43 @g44 (ai @hy<|ai @hce<|@e5);repeat' (first|refine zS ?_|refine zI ?_ ?_|exact zF0|refine zD fun hb=>?_|exact zC|refine zT ?_|fail))
      refine xd (fun n σ=>∃ v:Nat,v<=pn/\n=pn - v/\σ.t 13=.bs 57 3 (1+v)/\σ.b 57=some (.arr 143 3 ((⟨0,t.name,t.params⟩::parV v).map TyI.own))/\σ.t 59=.s (.int .i64 pn)/\σ.t 60=.s (.int .i64 v)/\σ.t 10=.bx 10 0/\σ.b 10=some (.box [.s (.string t.name),.s (.int .i64 t.params),.sl 3 (t.cons.map MCon.enc)])/\σ.t 12=.bx 12 0/\σ.b 12=some (.box [.s (.string c.name),.s (.bool c.has),.sl 3 (c.arg.map TyI.enc)])) pn ⟨0,by omega,by omega,?_⟩ ?_
      ·simp only [go_sem,simprocAttr,g1,g10,b10,hpn,Int.natCast_zero]
       rfl
      ·rintro n σ ⟨v,hv,rfl,i13,ib,i59,i60,i10,ib10,i12,ib12⟩ K3 hK3
       have hpl:=xbD v
       by_cases hlv:v<pn
       ·(have hWf:=w9 @i13 @ib @i59 @i60 @i10 @ib10 @i12 @ib12 @hpl;repeat' (first|refine zS ?_|refine zI ?_ ?_|exact zF0|refine zD fun hb=>?_|exact zC|refine zT ?_|fail))
        refine hK3 (pn - (v+1)) _ (by omega) ⟨v+1,by omega,rfl,?_⟩
        simp only [go_sem,simprocAttr,i13,ib,i59,i60,i10,ib10,i12,ib12,Int.natCast_succ,ZZ,List.map_append,List.map_cons];exact ⟨by rw [Nat.add_assoc],by rw [UN t v hpl];rfl⟩
       ·obtain rfl:v=pn:=by omega
        cases eh:c.has with
        | true=>
         rw [eh] at ib12
         (have hWf:=w9 @i13 @ib @i59 @i60 @i10 @ib10 @i12 @ib12 @hpl;repeat' (first|refine zS ?_|refine zI ?_ ?_|exact zF0|refine zD fun hb=>?_|exact zC|refine zT ?_|fail))
         have ea:argT c=c.arg:=by unfold argT;rw [if_pos eh]
         rw [UN t v hpl,own_frz t v hpn];show _=D.tup [.sl 3 ((ownT t).map TyI.enc),Y4 (argT c),.s (.int .i64 t.params),.s (.bool true)];rw [ea,UF (hne2 eh)]
        | false=>
         rw [eh] at ib12
         (have hWf:=w9 @i13 @ib @i59 @i60 @i10 @ib10 @i12 @ib12 @hpl;repeat' (first|refine zS ?_|refine zI ?_ ?_|exact zF0|refine zD fun hb=>?_|exact zC|refine zT ?_|fail))
         have ea:argT c=[]:=by unfold argT;rw [eh];rfl
         rw [UN t v hpl,own_frz t v hpn];show _=D.tup [.sl 3 ((ownT t).map TyI.enc),Y4 (argT c),.s (.int .i64 t.params),.s (.bool true)];rw [ea];rfl
    ·obtain rfl:j=t.cons.length:=by omega
     rw [List.take_length] at hnj
     (have hWf:=w9 @g1 @g35 @g36 @g37 @g10 @b10 @g42 @g43 @g44;repeat' (first|refine zS ?_|refine zI ?_ ?_|exact zF0|refine zD fun hb=>?_|exact zC|refine zT ?_|fail))
     refine hK (ts.length - (k+1)) _ (by omega) ⟨k+1,by omega,rfl,hstep hnj,?_⟩
     simp only [go_sem,simprocAttr,g1,g35,g36,g37,Int.natCast_succ]
     done
  ·obtain rfl:k=ts.length:=by omega
   rw [List.take_length] at hno
   rw [hno]
   (have hWf:=w4 @h1 @h35 @h36 @h37;repeat' (first|refine zS ?_|refine zI ?_ ?_|exact zF0|refine zD fun hb=>?_|exact zC|refine zT ?_|fail))
   all_goals rfl
theorem c_conOf(ts:List MType)(s:ByteArray)(hl:ts.length<=1048576)(hcl:∀ t∈ts,t.cons.length<=1048576)(hpar:∀ t∈ts,0<=t.params/\t.params<=2)(hne:∀ t∈ts,∀ c∈t.cons,c.has=true->c.arg≠[]):FT 148 [.sl 3 (ts.map MType.enc),.s (.string s)] (fun r _=>r=conD (xA ts s)):=by
 refine FCon.ice ?_
 by_cases h:s.toList=[116,114,117,101]\/s.toList=[102,97,108,115,101]\/s.toList=[91,93]\/s.toList=[58,58]
 ·exact c_conOfB ts s h
 ·exact c_conOfT ts s h hl hcl hpar hne
end
section
open Go.RowKit Arb
structure IS where
 l:List SubM
 nx:Nat
 code:Int
 at_:Int
structure Bnd where
 name:ByteArray
 ty:List TyI
 gen:List Int
def fvI(n:Nat):TyI:=⟨(n:Nat),⟨#[]⟩,0⟩
def nmT(s:ByteArray):List TyI:=[⟨0,s,0⟩]
def intT:List TyI:=nmT ⟨#[105,110,116]⟩
def Yi:List TyI:=nmT ⟨#[117,110,105,116]⟩
def zA:TyI:=⟨0,⟨#[42]⟩,2⟩
def incM(s:IS)(k:Nat):IS:=⟨s.l,s.nx+k,s.code,s.at_⟩
def yP(s:IS)(c a:Int):IS:=if s.code=0 then ⟨s.l,s.nx,c,a⟩ else s
open Classical in
noncomputable def uniR(l:List SubM)(x y:List TyI):List SubM×Int:=if h:∃ r,∃ n,UOk n l x y/\uniM n l x y=some r then Classical.choose h else (l,2)
theorem uniR_at{l:List SubM}{x y:List TyI}(h:∃ r,∃ n,UOk n l x y/\uniM n l x y=some r):∃ n,UOk n l x y/\uniM n l x y=some (uniR l x y):=by
 unfold uniR;rw [dif_pos h];exact Classical.choose_spec h
noncomputable def xD(s:IS)(x y:List TyI)(a:Int):IS:=
 if s.code≠0 then s
 else if 200<(putX s.l x).length\/200<(putX s.l y).length then ⟨s.l,s.nx,26,a⟩
 else if (uniR s.l x y).2=0 then ⟨(uniR s.l x y).1,s.nx,s.code,s.at_⟩
 else ⟨(uniR s.l x y).1,s.nx,(uniR s.l x y).2+22,a⟩
noncomputable def yH(s:IS)(x y:List TyI)(a:Int):IS:=
 if s.code≠0 then s
 else if 200<(putX s.l x).length\/200<(putX s.l y).length then ⟨s.l,s.nx,26,a⟩
 else if (uniR s.l x y).2=0 then ⟨(uniR s.l x y).1,s.nx,s.code,s.at_⟩
 else ⟨s.l,s.nx,(uniR s.l x y).2+22,a⟩
def xm(k n:Nat):List SubM:=(List.range k).map fun v=>⟨(v:Nat),[fvI (n+v)]⟩
theorem Yp(k n:Nat):xm (k+1) n=xm k n++[⟨(k:Nat),[fvI (n+k)]⟩]:=by unfold xm;rw [List.range_succ,List.map_append];rfl
theorem YX(k n:Nat):(xm k n).length=k:=by unfold xm;rw [List.length_map,List.length_range]
structure ConR where
 own:List TyI
 arg:List TyI
 ok:Bool
def conI(ts:List MType)(s:IS)(name:ByteArray)(has:Bool)(a:Int):ConR×IS:=
 match xA ts name with
 | none=>(⟨[],[],false⟩,yP s 22 a)
 | some (own,arg,many)=>if has≠decide (0<arg.length) then (⟨[],[],false⟩,yP s 23 a) else (⟨putX (xm many.toNat s.nx) own,putX (xm many.toNat s.nx) arg,true⟩,incM s many.toNat)
def wo(ts:List MType)(s:IS)(name:ByteArray):Option ((List TyI×List TyI×Bool)×IS):=
 if name.toList=[116,114,117,101]\/name.toList=[102,97,108,115,101] then some ((vH,[],false),s)
 else if name.toList=[91,93]\/name.toList=[58,58] then some ((putX (xm 1 s.nx) yw,putX (xm 1 s.nx) (uq++yw),name.toList==[58,58]),incM s 1)
 else (xW ts name).map fun q=>((putX (xm q.1.params.toNat s.nx) (ownT q.1),putX (xm q.1.params.toNat s.nx) q.2.arg,q.2.has),incM s q.1.params.toNat)
def xn(ts:List MType)(s:IS)(name:ByteArray)(one:Bool)(a:Int):(List TyI×List TyI)×IS:=
 match wo ts s name with
 | none=>(([],[]),yP s 22 a)
 | some ((t,arg,has),s1)=>((t,arg),if has≠one then yP s1 23 a else s1)
mutual
noncomputable def patI(ts:List MType)(at_:Int):PT->List Bnd->IS->List TyI×List Bnd×IS
 | .mk a l,e,s=>
  if a.kind=3 then (intT,e,s)
  else if a.kind=6 then (Yi,e,s)
  else if a.kind=1 then ([fvI s.nx],e,incM s 1)
  else if a.kind=2 then ([fvI s.nx],⟨a.s,[fvI s.nx],[]⟩::e,incM s 1)
  else if a.kind=5 then (zA::(Xl ts at_ l e s).1.flatten,(Xl ts at_ l e s).2)
  else if (conI ts s a.s (decide (0<l.length)) at_).1.ok=false\/l.length=0 then ((conI ts s a.s (decide (0<l.length)) at_).1.own,e,(conI ts s a.s (decide (0<l.length)) at_).2)
  else ((conI ts s a.s (decide (0<l.length)) at_).1.own,(Xl ts at_ l e (conI ts s a.s (decide (0<l.length)) at_).2).2.1,xD (Xl ts at_ l e (conI ts s a.s (decide (0<l.length)) at_).2).2.2 (Xl ts at_ l e (conI ts s a.s (decide (0<l.length)) at_).2).1.flatten (conI ts s a.s (decide (0<l.length)) at_).1.arg at_)
noncomputable def Xl(ts:List MType)(at_:Int):List PT->List Bnd->IS->List (List TyI)×List Bnd×IS
 | [],e,s=>([],e,s)
 | t::l,e,s=>((patI ts at_ t e s).1::(Xl ts at_ l (patI ts at_ t e s).2.1 (patI ts at_ t e s).2.2).1,(Xl ts at_ l (patI ts at_ t e s).2.1 (patI ts at_ t e s).2.2).2)
end
mutual
noncomputable def patS(ts:List MType)(at_:Int):PT->List Bnd->IS->List TyI×List Bnd×IS
 | .mk a l,e,s=>
  if s.code≠0 then ([],e,s)
  else if a.kind=3 then (intT,e,s)
  else if a.kind=6 then (Yi,e,s)
  else if a.kind=1 then ([fvI s.nx],e,incM s 1)
  else if a.kind=2 then ([fvI s.nx],⟨a.s,[fvI s.nx],[]⟩::e,incM s 1)
  else if a.kind=5 then (zA::(Xm ts at_ l e s).1.flatten,(Xm ts at_ l e s).2)
  else if (xn ts s a.s (l.length==1) at_).2.code≠0\/l.length=0 then ((xn ts s a.s (l.length==1) at_).1.1,e,(xn ts s a.s (l.length==1) at_).2)
  else ((xn ts s a.s (l.length==1) at_).1.1,(Xm ts at_ l e (xn ts s a.s (l.length==1) at_).2).2.1,yH (Xm ts at_ l e (xn ts s a.s (l.length==1) at_).2).2.2 (Xm ts at_ l e (xn ts s a.s (l.length==1) at_).2).1.flatten (xn ts s a.s (l.length==1) at_).1.2 at_)
noncomputable def Xm(ts:List MType)(at_:Int):List PT->List Bnd->IS->List (List TyI)×List Bnd×IS
 | [],e,s=>([],e,s)
 | t::l,e,s=>((patS ts at_ t e s).1::(Xm ts at_ l (patS ts at_ t e s).2.1 (patS ts at_ t e s).2.2).1,(Xm ts at_ l (patS ts at_ t e s).2.1 (patS ts at_ t e s).2.2).2)
end
section
variable {ts:List MType} {at_:Int} {a:PI} {l:List PT} {e:List Bnd} {s:IS} {x y:PT}
theorem UR(k:a.kind=3):patI ts at_ (.mk a l) e s=(intT,e,s):=by rw [patI,if_pos k]
theorem Z3(k:a.kind=6):patI ts at_ (.mk a l) e s=(Yi,e,s):=by rw [patI,if_neg (by omega),if_pos k]
theorem Z4(k:a.kind=1):patI ts at_ (.mk a l) e s=([fvI s.nx],e,incM s 1):=by rw [patI,if_neg (by omega),if_neg (by omega),if_pos k]
theorem US(k:a.kind=2):patI ts at_ (.mk a l) e s=([fvI s.nx],⟨a.s,[fvI s.nx],[]⟩::e,incM s 1):=by rw [patI,if_neg (by omega),if_neg (by omega),if_neg (by omega),if_pos k]
theorem Z2(k:a.kind=5){t1 t2:List TyI}{e1 e2:List Bnd}{s1 s2:IS}(h1:patI ts at_ x e s=(t1,e1,s1))(h2:patI ts at_ y e1 s1=(t2,e2,s2)):patI ts at_ (.mk a [x,y]) e s=(zA::(t1++t2),e2,s2):=by
 rw [patI,if_neg (by omega),if_neg (by omega),if_neg (by omega),if_neg (by omega),if_pos k]
 simp only [Xl,h1,h2,List.flatten_cons,List.flatten_nil,List.append_nil]
theorem UQ(k:a.kind=4){c:ConR}{s1:IS}(h:conI ts s a.s (decide (0<l.length)) at_=(c,s1))(hc:c.ok=false):patI ts at_ (.mk a l) e s=(c.own,e,s1):=by
 rw [patI,if_neg (by omega),if_neg (by omega),if_neg (by omega),if_neg (by omega),if_neg (by omega),h,if_pos (.inl hc)]
theorem Z0(k:a.kind=4){c:ConR}{s1:IS}(h:conI ts s a.s false at_=(c,s1)):patI ts at_ (.mk a []) e s=(c.own,e,s1):=by
 rw [patI,if_neg (by omega),if_neg (by omega),if_neg (by omega),if_neg (by omega),if_neg (by omega),if_pos (.inr rfl)]
 simp only [List.length_nil,Nat.lt_irrefl,decide_false,h]
theorem Z1(k:a.kind=4){c:ConR}{s1 s2:IS}{t:List TyI}{e2:List Bnd}(h:conI ts s a.s true at_=(c,s1))(hc:c.ok=true)(h1:patI ts at_ x e s1=(t,e2,s2)):patI ts at_ (.mk a [x]) e s=(c.own,e2,xD s2 t c.arg at_):=by
 have e0:decide (0<[x].length)=true:=rfl;rw [patI,if_neg (by omega),if_neg (by omega),if_neg (by omega),if_neg (by omega),if_neg (by omega),e0,h,if_neg (by simp [hc])]
 simp only [Xl,h1,List.flatten_cons,List.flatten_nil,List.append_nil]
theorem yF(h:s.code≠0):patS ts at_ x e s=([],e,s):=by obtain ⟨a,l⟩:=x;rw [patS,if_pos h]
theorem Y9(h:s.code=0)(k:a.kind=3):patS ts at_ (.mk a l) e s=(intT,e,s):=by rw [patS,if_neg (by omega),if_pos k]
theorem X9(h:s.code=0)(k:a.kind=6):patS ts at_ (.mk a l) e s=(Yi,e,s):=by rw [patS,if_neg (by omega),if_neg (by omega),if_pos k]
theorem Ya(h:s.code=0)(k:a.kind=1):patS ts at_ (.mk a l) e s=([fvI s.nx],e,incM s 1):=by rw [patS,if_neg (by omega),if_neg (by omega),if_neg (by omega),if_pos k]
theorem Zb(h:s.code=0)(k:a.kind=2):patS ts at_ (.mk a l) e s=([fvI s.nx],⟨a.s,[fvI s.nx],[]⟩::e,incM s 1):=by rw [patS,if_neg (by omega),if_neg (by omega),if_neg (by omega),if_neg (by omega),if_pos k]
theorem vW(h:s.code=0)(k:a.kind=5){t1 t2:List TyI}{e1 e2:List Bnd}{s1 s2:IS}(h1:patS ts at_ x e s=(t1,e1,s1))(h2:patS ts at_ y e1 s1=(t2,e2,s2)):patS ts at_ (.mk a [x,y]) e s=(zA::(t1++t2),e2,s2):=by
 rw [patS,if_neg (by omega),if_neg (by omega),if_neg (by omega),if_neg (by omega),if_neg (by omega),if_pos k]
 simp only [Xm,h1,h2,List.flatten_cons,List.flatten_nil,List.append_nil]
theorem XH(h:s.code=0)(k:a.kind=4){c:List TyI×List TyI}{s1:IS}(hl:xn ts s a.s (l.length==1) at_=(c,s1))(hc:s1.code≠0):patS ts at_ (.mk a l) e s=(c.1,e,s1):=by
 rw [patS,if_neg (by omega),if_neg (by omega),if_neg (by omega),if_neg (by omega),if_neg (by omega),if_neg (by omega),hl,if_pos (.inl hc)]
theorem X7(h:s.code=0)(k:a.kind=4){c:List TyI×List TyI}{s1:IS}(hl:xn ts s a.s false at_=(c,s1)):patS ts at_ (.mk a []) e s=(c.1,e,s1):=by
 have e0:(([]:List PT).length==1)=false:=by decide
 rw [patS,if_neg (by omega),if_neg (by omega),if_neg (by omega),if_neg (by omega),if_neg (by omega),if_neg (by omega),e0,hl,if_pos (.inr rfl)]
theorem X8(h:s.code=0)(k:a.kind=4){c:List TyI×List TyI}{s1 s2:IS}{t:List TyI}{e2:List Bnd}(hl:xn ts s a.s true at_=(c,s1))(hc:s1.code=0)(h1:patS ts at_ x e s1=(t,e2,s2)):patS ts at_ (.mk a [x]) e s=(c.1,e2,yH s2 t c.2 at_):=by
 have e0:([x].length==1)=true:=rfl;rw [patS,if_neg (by omega),if_neg (by omega),if_neg (by omega),if_neg (by omega),if_neg (by omega),if_neg (by omega),e0,hl,if_neg (by simp [hc])]
 simp only [Xm,h1,List.flatten_cons,List.flatten_nil,List.append_nil]
end
def Qn(n:Nat)(x:TyI):Prop:=(varB x=true->0<=x.v/\x.v<n)/\(varB x=false->xR x=true)
def rngV(n:Nat):List Int:=(List.range n).map fun k:Nat=>(k:Int)
structure TyG(n:Nat)(t:List TyI):Prop where
 wf:wfV t
 q:∀ x∈t,Qn n x
structure GoodS(s:IS):Prop where
 g:GoodL (Qn s.nx) s.l
 room:s.l.length+unb (rngV s.nx) s.l<=s.nx
def OkS(s:IS):Prop:=s.code=0->GoodS s
theorem Qn.mono{n m:Nat}{x:TyI}(h:Qn n x)(hm:n<=m):Qn m x:=⟨fun hb=>by have:=h.1 hb;omega,h.2⟩
theorem TyG.mono{n m:Nat}{t:List TyI}(h:TyG n t)(hm:n<=m):TyG m t:=⟨h.wf,fun x hx=>(h.q x hx).mono hm⟩
theorem GoodL.mono{Q R:TyI->Prop}{l:List SubM}(h:GoodL Q l)(hq:∀ x,Q x->R x):GoodL R l:=⟨h.rise,h.wf,h.out,h.len,fun s hs x hx=>hq x (h.q s hs x hx),fun s hs=>by obtain ⟨x,h1,h2⟩:=h.vq s hs;exact ⟨x,hq x h1,h2⟩⟩
theorem rngV_succ(n:Nat):rngV (n+1)=rngV n++[(n:Int)]:=by unfold rngV;rw [List.range_succ,List.map_append];rfl
theorem unb_rng(n k:Nat)(l:List SubM):unb (rngV (n+k)) l<=unb (rngV n) l+k:=by
 induction k with
 | zero=>exact Nat.le_refl _
 | succ k ih=>
  rw [<- Nat.add_assoc,rngV_succ];unfold unb at ih ⊢
  rw [List.filter_append,List.length_append];have:(List.filter (fun v=>(lk l v).isNone) [((n+k:Nat):Int)]).length<=1:=List.length_filter_le _ _
  omega
theorem GoodS.inc{s:IS}(h:GoodS s)(k:Nat):GoodS (incM s k):=⟨h.g.mono fun x hx=>hx.mono (by show s.nx<=s.nx+k;omega),by
 have h1:=h.room;have h2:=unb_rng s.nx k s.l;show s.l.length+unb (rngV (s.nx+k)) s.l<=s.nx+k;omega⟩
theorem OkS.inc{s:IS}(h:OkS s)(k:Nat):OkS (incM s k):=fun hc=>(h hc).inc k
theorem GoodS.len{s:IS}(h:GoodS s):s.l.length<=s.nx:=by have:=h.room;omega
theorem Qn.zero{n:Nat}{x:TyI}(h:Qn n x)(hv:varB x=false):x.v=0:=by
 have:=h.2 hv;unfold varB at hv
 unfold xR at this
 rw [if_neg (by rw [hv];simp)] at this
 simp only [Bool.and_eq_true,beq_iff_eq] at this
 exact this.1
theorem mem_rngV{n:Nat}{v:Int}:v∈rngV n ↔ 0<=v/\v<n:=by
 unfold rngV;rw [List.mem_map]
 constructor
 ·rintro ⟨k,hk,rfl⟩;have:=List.mem_range.1 hk;omega
 ·rintro ⟨h1,h2⟩;exact ⟨v.toNat,List.mem_range.2 (by omega),by omega⟩
theorem Z8:∀ (n:Nat) (l:List SubM) (x y:List TyI) (r:List SubM×Int),uniM n l x y=some r->0<=r.2/\r.2<=4
 | 0,_,_,_,_,h=>by cases h
 | n+1,l,x,y,r,h=>by
  have bnd:∀ v u,0<=(xB l v u).2/\(xB l v u).2<=4:=fun v u=>by
   unfold xB;split
   ·exact ⟨by dsimp only;omega,by dsimp only;omega⟩
   ·dsimp only;split<;>exact ⟨by omega,by omega⟩
  have fold:∀ (X Y:List TyI) (m k:Nat) (l:List SubM) (r:List SubM×Int),zO (uniM n) X Y m k l=some r->0<=r.2/\r.2<=4:=by
   intro X Y m
   induction m with
   | zero=>intro k l r h;rw [zO] at h;injection h with h;subst h;exact ⟨by dsimp only;omega,by dsimp only;omega⟩
   | succ m ih=>
    intro k l r h;rw [zO] at h
    cases e:uniM n l (kid X k) (kid Y k) with
    | none=>rw [e] at h;cases h
    | some r1=>
     rw [e] at h
     dsimp only at h
     split at h
     ·exact ih _ _ _ h
     ·injection h with h;subst h;exact Z8 n _ _ _ _ e
  rw [uniM] at h
  split at h
  ·unfold Wp at h
   repeat' split at h
   all_goals first
    | (injection h with h;subst h;first|exact bnd _ _|exact ⟨by dsimp only;omega,by dsimp only;omega⟩)
    | exact fold _ _ _ _ _ _ h
    | fail
  ·cases h
theorem VC:∀ (n:Nat) (l:List SubM) (x y:List TyI) (r:List SubM×Int),uniM n l x y=some r->uniM (n+1) l x y=some r
 | 0,_,_,_,_,h=>by cases h
 | n+1,l,x,y,r,h=>by
  have fold:∀ (X Y:List TyI) (m k:Nat) (l:List SubM) (r:List SubM×Int),zO (uniM n) X Y m k l=some r->zO (uniM (n+1)) X Y m k l=some r:=by
   intro X Y m
   induction m with
   | zero=>intro k l r h;exact h
   | succ m ih=>
    intro k l r h;rw [zO] at h ⊢
    cases e:uniM n l (kid X k) (kid Y k) with
    | none=>rw [e] at h;cases h
    | some r1=>
     rw [e] at h
     rw [VC n _ _ _ _ e];dsimp only at h ⊢
     split
     ·rename_i q;rw [if_pos q] at h;exact ih _ _ _ h
     ·rename_i q;rw [if_neg q] at h;exact h
  rw [uniM] at h
  rw [uniM];split at h
  ·rename_i a b ea eb
   unfold Wp at h ⊢
   split
   ·rename_i q;rw [if_pos q] at h;exact h
   ·rename_i q
    rw [if_neg q] at h
    split
    ·rename_i q2;rw [if_pos q2] at h;exact h
    ·rename_i q2
     rw [if_neg q2] at h
     split
     ·rename_i q3;rw [if_pos q3] at h;exact h
     ·rename_i q3;rw [if_neg q3] at h;exact fold _ _ _ _ _ _ h
  ·cases h
theorem xar{n m:Nat}(hm:n<=m)(l:List SubM)(x y:List TyI)(r:List SubM×Int)(h:uniM n l x y=some r):uniM m l x y=some r:=by
 obtain ⟨k,rfl⟩:=Nat.le.dest hm;clear hm
 induction k with
 | zero=>exact h
 | succ k ih=>exact VC _ _ _ _ _ ih
theorem uniR_hi(l:List SubM)(x y:List TyI):0<=(uniR l x y).2/\(uniR l x y).2<=4:=by
 by_cases h:∃ r,∃ n,UOk n l x y/\uniM n l x y=some r
 ·obtain ⟨n,-,e⟩:=uniR_at h
  exact Z8 _ _ _ _ _ e
 ·unfold uniR;rw [dif_neg h];exact ⟨by dsimp only;omega,by dsimp only;omega⟩
theorem v4{s:IS}(h:GoodS s)(hn:s.nx<=3000000){x y:List TyI}(hx:TyG s.nx x)(hy:TyG s.nx y)(lx:(putX s.l x).length<=200)(ly:(putX s.l y).length<=200) :
  ∃ n,UOk n s.l x y/\uniM n s.l x y=some (uniR s.l x y)/\0<=(uniR s.l x y).2/\((uniR s.l x y).2=0->We (Qn s.nx) (rngV s.nx) s.l x y (uniR s.l x y).1):=by
 have pos:∀ t∈s.l,0<t.ty.length:=fun t ht=>(h.g.wf t ht).pos
 have bd:∀ zs:List TyI,(putX s.l zs).length<=200->Bd (Qn s.nx) s.l zs:=fun zs hz l' _ hg=>by
  have h0:=vN pos zs;have h1:=z9 (l:=l') (B:=200) (by omega) (fun s hs=>hg.len s hs) zs
  have:=Nat.mul_le_mul_right 200 (Nat.le_trans h0 hz);omega
 obtain ⟨m,hm⟩:∃ m,unb (rngV s.nx) s.l*40001+(putX s.l x).length<m:=⟨_,Nat.lt_succ_self _⟩;obtain ⟨h1,r,h2,h3⟩:=xbT (Q:=Qn s.nx) (V:=rngV s.nx) (fun x hx hv=>mem_rngV.2 (hx.1 hv)) (fun x hx hv=>hx.zero hv) (B:=s.nx) hn m s.l x y h.g hx.wf hy.wf hx.q hy.q (bd x lx) (bd y ly) h.room hm
 obtain ⟨n,e1,e2⟩:=uniR_at ⟨r,m,h1,h2⟩;obtain ⟨M,hM1,hM2⟩:∃ M,n<=M/\m<=M:=⟨max n m,Nat.le_max_left _ _,Nat.le_max_right _ _⟩;have er:uniR s.l x y=r:=by
  have a1:=xar hM1 _ _ _ _ e2;have a2:=xar hM2 _ _ _ _ h2;exact Option.some.inj (a1.symm.trans a2)
 refine ⟨n,e1,e2,(Z8 _ _ _ _ _ e2).1,?_⟩;rw [er];exact h3
theorem vi{s:IS}(h:s.code≠0)(x y:List TyI)(a:Int):xD s x y a=s:=by unfold xD;rw [if_pos h]
theorem vj{s:IS}(h:s.code≠0)(x y:List TyI)(a:Int):yH s x y a=s:=by unfold yH;rw [if_pos h]
theorem vY{s:IS}(h:s.code=0){x y:List TyI}(a:Int)(hb:200<(putX s.l x).length\/200<(putX s.l y).length):xD s x y a=⟨s.l,s.nx,26,a⟩:=by unfold xD;rw [if_neg (by omega),if_pos hb]
theorem Z6{s:IS}(h:s.code=0){x y:List TyI}(a:Int)(hb:200<(putX s.l x).length\/200<(putX s.l y).length):yH s x y a=⟨s.l,s.nx,26,a⟩:=by unfold yH;rw [if_neg (by omega),if_pos hb]
theorem WD{s:IS}(h:s.code=0){x y:List TyI}(a:Int)(hb:¬ (200<(putX s.l x).length\/200<(putX s.l y).length))(hz:(uniR s.l x y).2=0):xD s x y a=⟨(uniR s.l x y).1,s.nx,s.code,s.at_⟩:=by unfold xD;rw [if_neg (by omega),if_neg hb,if_pos hz]
theorem sameS_0{s:IS}(h:s.code=0){x y:List TyI}(a:Int)(hb:¬ (200<(putX s.l x).length\/200<(putX s.l y).length))(hz:(uniR s.l x y).2=0):yH s x y a=⟨(uniR s.l x y).1,s.nx,s.code,s.at_⟩:=by unfold yH;rw [if_neg (by omega),if_neg hb,if_pos hz]
theorem WE{s:IS}(h:s.code=0){x y:List TyI}(a:Int)(hb:¬ (200<(putX s.l x).length\/200<(putX s.l y).length))(hz:(uniR s.l x y).2≠0):xD s x y a=⟨(uniR s.l x y).1,s.nx,(uniR s.l x y).2+22,a⟩:=by unfold xD;rw [if_neg (by omega),if_neg hb,if_neg hz]
theorem sameS_n{s:IS}(h:s.code=0){x y:List TyI}(a:Int)(hb:¬ (200<(putX s.l x).length\/200<(putX s.l y).length))(hz:(uniR s.l x y).2≠0):yH s x y a=⟨s.l,s.nx,(uniR s.l x y).2+22,a⟩:=by unfold yH;rw [if_neg (by omega),if_neg hb,if_neg hz]
theorem wa(s:IS)(x y:List TyI)(a:Int):(xD s x y a).nx=s.nx:=by
  unfold xD;repeat' split
  all_goals rfl
structure Rl(s s':IS):Prop where
 c:s.code=s'.code
 a:s.at_=s'.at_
 e:s.code=0->s=s'
theorem Rl.refl(s:IS):Rl s s:=⟨rfl,rfl,fun _=>rfl⟩
theorem uniR_code{s:IS}(h:GoodS s)(hn:s.nx<=3000000){x y:List TyI}(hx:TyG s.nx x)(hy:TyG s.nx y)(hb:¬ (200<(putX s.l x).length\/200<(putX s.l y).length)):0<=(uniR s.l x y).2:=by
 obtain ⟨_,_,_,h3,_⟩:=v4 h hn hx hy (by omega) (by omega)
 exact h3
structure Stp(s s1:IS)(k:Nat):Prop where
 le:s.nx<=s1.nx
 up:s1.nx<=s.nx+k
 code:s.code≠0->s1.code=s.code/\s1.at_=s.at_
 ok:OkS s->s1.nx<=3000000->OkS s1
theorem Stp.refl(s:IS):Stp s s 0:=⟨Nat.le_refl _,Nat.le_refl _,fun _=>⟨rfl,rfl⟩,fun h _=>h⟩
theorem Stp.wide{s s1:IS}{j k:Nat}(h:Stp s s1 j)(hk:j<=k):Stp s s1 k:=⟨h.le,by have:=h.up;omega,h.code,h.ok⟩
theorem Stp.z{s s1:IS}{j:Nat}(h:Stp s s1 j)(hz:s1.code=0):s.code=0:=by
 rcases Classical.em (s.code=0) with q|q
 ·exact q
 ·rw [(h.code q).1] at hz;exact absurd hz q
theorem stp_inc(s:IS)(k:Nat):Stp s (incM s k) k:=⟨Nat.le_add_right _ _,Nat.le_refl _,fun _=>⟨rfl,rfl⟩,fun h _=>h.inc k⟩
theorem xbO(s:IS)(c a:Int)(hc:c≠0):Stp s (yP s c a) 0:=by
 unfold yP;split
 ·rename_i q;exact ⟨Nat.le_refl _,Nat.le_refl _,fun h=>absurd q h,fun _ _ h=>absurd h hc⟩
 ·exact Stp.refl s
theorem wG(s:IS)(c a:Int)(hc:c≠0):(yP s c a).code≠0:=by
 unfold yP;split
 ·exact hc
 ·rename_i q;exact q
theorem uy{s:IS}{x y:List TyI}(a:Int)(hs:OkS s)(hn:s.nx<=3000000)(hx:s.code=0->TyG s.nx x)(hy:s.code=0->TyG s.nx y):Stp s (xD s x y a) 0:=by
 rcases Classical.em (s.code=0) with q|q
 ·rcases Classical.em (200<(putX s.l x).length\/200<(putX s.l y).length) with hb|hb
  ·rw [vY q a hb]
   exact ⟨Nat.le_refl _,Nat.le_refl _,fun h=>absurd q h,fun _ _ h=>absurd h (show ¬ ((26:Int)=0) by decide)⟩
  ·obtain ⟨n,u1,u2,u3,u4⟩:=v4 (hs q) hn (hx q) (hy q) (by omega) (by omega)
   rcases Classical.em ((uniR s.l x y).2=0) with hz|hz
   ·rw [WD q a hb hz]
    have P:=u4 hz;exact ⟨Nat.le_refl _,Nat.le_refl _,fun h=>absurd q h,fun _ _ _=>⟨P.good,by have:=P.room;have:=(hs q).room;show (uniR s.l x y).1.length+unb (rngV s.nx) (uniR s.l x y).1<=s.nx;omega⟩⟩
   ·rw [WE q a hb hz]
    exact ⟨Nat.le_refl _,Nat.le_refl _,fun h=>absurd q h,fun _ _ h=>absurd h (show ¬ (uniR s.l x y).2+22=0 by omega)⟩
 ·rw [vi q];exact Stp.refl s
theorem WF{s s':IS}(h:Rl s s')(hs:OkS s)(hn:s.nx<=3000000){x y x' y':List TyI}(hx:s.code=0->TyG s.nx x/\x=x')(hy:s.code=0->TyG s.nx y/\y=y')(a:Int):Rl (xD s x y a) (yH s' x' y' a):=by
 rcases Classical.em (s.code=0) with q|q
 ·obtain rfl:=h.e q
  obtain ⟨gx,rfl⟩:=hx q;obtain ⟨gy,rfl⟩:=hy q;rcases Classical.em (200<(putX s.l x).length\/200<(putX s.l y).length) with hb|hb
  ·rw [vY q a hb,Z6 q a hb];exact Rl.refl _
  ·rcases Classical.em ((uniR s.l x y).2=0) with hz|hz
   ·rw [WD q a hb hz,sameS_0 q a hb hz];exact Rl.refl _
   ·rw [WE q a hb hz,sameS_n q a hb hz]
    have:=uniR_code (hs q) hn gx gy hb;exact ⟨rfl,rfl,fun hc=>absurd hc (show ¬ (uniR s.l x y).2+22=0 by omega)⟩
 ·rw [vi q,vj (by rw [<- h.c];exact q)];exact h
end
end Go.Proofs.YtmnokalddmlogaaGreat
