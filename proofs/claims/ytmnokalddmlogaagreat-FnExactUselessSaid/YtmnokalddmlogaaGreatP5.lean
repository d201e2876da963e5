/- Parts of the proof. -/
import Derived.Test.YtmnokalddmlogaaGreatP4
set_option linter.unusedSimpArgs false
set_option linter.unusedVariables false
set_option maxRecDepth 100000
set_option maxHeartbeats 8000000
namespace Go.Proofs.YtmnokalddmlogaaGreat
section
def varB(x:TyI):Bool:=x.name.toList.isEmpty
def idxN:List Int->Int->Nat
 | [],_=>0
 | y::l,x=>if y=x then 0 else idxN l x+1
theorem idxN_le:∀ (l:List Int) (x:Int),idxN l x<=l.length
 | [],_=>Nat.le_refl _
 | y::l,x=>by
  rw [idxN];split
  ·simp
  ·have:=idxN_le l x
   simp;omega
theorem xbj:∀ (l t:List Int) (x:Int),x∈l->idxN (l++t) x=idxN l x
 | [],t,x,h=>by cases h
 | y::l,t,x,h=>by
  rw [List.cons_append,idxN,idxN];split
  ·rfl
  ·rename_i hne
   rw [xbj l t x (by rcases List.mem_cons.1 h with rfl|h;exact absurd rfl hne;exact h)]
theorem QV:∀ (l t:List Int) (x:Int),x∉l->idxN (l++x::t) x=l.length
 | [],t,x,h=>by simp [idxN]
 | y::l,t,x,h=>by
  rw [List.cons_append,idxN,if_neg (fun e=>h (by rw [e];simp)),QV l t x (fun q=>h (by simp [q]))];rfl
theorem idxN_at:∀ (l:List Int) (x:Int) (k:Nat) (h:k<l.length),l[k]=x->(∀ j (hj:j<k),l[j]'(by omega)≠x)->idxN l x=k
 | [],x,k,h,_,_=>by simp at h
 | y::l,x,0,_,e,_=>by rw [idxN,if_pos (by simpa using e)]
 | y::l,x,k+1,h,e,hn=>by
  rw [idxN,if_neg (show ¬ y=x from hn 0 (by omega)),idxN_at l x k (by simpa using h) (by simpa using e) (fun j hj=>by have:=hn (j+1) (by omega);simpa using this)]
def x0(seen:List Int)(x:TyI):List Int:=if varB x=true/\x.v∉seen then seen++[x.v] else seen
def xp(xs:List TyI):List Int:=xs.foldl x0 []
theorem vl(xs:List TyI)(k:Nat)(h:k<xs.length):xp (xs.take (k+1))=x0 (xp (xs.take k)) xs[k]:=by
 unfold xp;rw [List.take_succ_eq_append_getElem h,List.foldl_append];rfl
theorem XO{seen:List Int}{x:TyI}(h:varB x=true)(hn:x.v∉seen):x0 seen x=seen++[x.v]:=by unfold x0;rw [if_pos ⟨h,hn⟩]
theorem vm{seen:List Int}{x:TyI}(h:varB x=true->x.v∈seen):x0 seen x=seen:=by unfold x0;rw [if_neg (fun q=>q.2 (h q.1))]
theorem xbU(seen:List Int)(x:TyI):∃ t,x0 seen x=seen++t:=by
 unfold x0;split
 ·exact ⟨_,rfl⟩
 ·exact ⟨[],by simp⟩
theorem xbe:∀ (l:List TyI) (s:List Int),∃ t,l.foldl x0 s=s++t
 | [],s=>⟨[],by simp⟩
 | x::l,s=>by
  obtain ⟨t,ht⟩:=xbU s x;obtain ⟨u,hu⟩:=xbe l (x0 s x);exact ⟨t++u,by rw [List.foldl_cons,hu,ht,List.append_assoc]⟩
theorem varsM_pre(xs:List TyI)(k:Nat):∃ t,xp xs=xp (xs.take k)++t:=by
 obtain ⟨t,ht⟩:=xbe (xs.drop k) (xp (xs.take k));refine ⟨t,?_⟩;rw [<- ht];unfold xp;rw [<- List.foldl_append,List.take_append_drop]
theorem Yj(xs:List TyI):∀ k,k<=xs.length->(xp (xs.take k)).length<=k
 | 0,_=>by simp [xp]
 | k+1,h=>by
  rw [vl xs k (by omega)]
  have:=Yj xs k (by omega)
  unfold x0;split
  ·rw [List.length_append];simpa using this
  ·omega
theorem varsM_len'(xs:List TyI):(xp xs).length<=xs.length:=by have:=Yj xs xs.length (Nat.le_refl _);rwa [List.take_length] at this
theorem Wa(xs:List TyI):∀ k,k<=xs.length->∀ v,v∈xp (xs.take k) ↔ ∃ j,∃ h:j<xs.length,j<k/\varB xs[j]=true/\xs[j].v=v
 | 0,_,v=>by simp [xp]
 | k+1,h,v=>by
  rw [vl xs k (by omega)]
  have ih:=Wa xs k (by omega) v
  have key:v∈x0 (xp (xs.take k)) xs[k] ↔ v∈xp (xs.take k)\/(varB xs[k]=true/\xs[k].v=v):=by
   unfold x0
   by_cases hb:varB xs[k]=true
   ·by_cases hm:xs[k].v∈xp (xs.take k)
    ·rw [if_neg (fun q=>q.2 hm)]
     constructor
     ·exact .inl
     ·rintro (q|⟨_,rfl⟩)
      ·exact q
      ·exact hm
    ·rw [if_pos ⟨hb,hm⟩,List.mem_append,List.mem_singleton]
     constructor
     ·rintro (q|rfl)
      ·exact .inl q
      ·exact .inr ⟨hb,rfl⟩
     ·rintro (q|⟨_,rfl⟩)
      ·exact .inl q
      ·exact .inr rfl
   ·rw [if_neg (fun q=>hb q.1)]
    constructor
    ·exact .inl
    ·rintro (q|q)
     ·exact q
     ·exact absurd q.1 hb
  rw [key,ih]
  constructor
  ·rintro (⟨j,h1,h2,h3,h4⟩|⟨h3,h4⟩)
   ·exact ⟨j,h1,by omega,h3,h4⟩
   ·exact ⟨k,by omega,by omega,h3,h4⟩
  ·rintro ⟨j,h1,h2,h3,h4⟩
   rcases Nat.lt_or_ge j k with q|q
   ·exact .inl ⟨j,h1,q,h3,h4⟩
   ·obtain rfl:j=k:=by omega
    exact .inr ⟨h3,h4⟩
theorem varsM_mem'(xs:List TyI)(v:Int):v∈xp xs ↔ ∃ x∈xs,varB x=true/\x.v=v:=by
 have:=Wa xs xs.length (Nat.le_refl _) v;rw [List.take_length] at this
 rw [this]
 constructor
 ·rintro ⟨j,h1,_,h3,h4⟩
  exact ⟨_,List.getElem_mem h1,h3,h4⟩
 ·rintro ⟨x,hx,h3,h4⟩
  obtain ⟨j,hj,rfl⟩:=List.getElem_of_mem hx;exact ⟨j,hj,hj,h3,h4⟩
def yJ(vs:List Int)(x:TyI):TyI:=if varB x then ⟨(idxN vs x.v:Nat),x.name,x.ar⟩ else x
def yu(xs:List TyI):List TyI:=xs.map (yJ (xp xs))
theorem xcE(xs:List TyI)(k:Nat)(h:k<xs.length):yJ (xp xs) xs[k]=yJ (xp (xs.take (k+1))) xs[k]:=by
 unfold yJ;split
 ·rename_i hb
  obtain ⟨t,ht⟩:=varsM_pre xs (k+1);rw [ht,xbj _ _ _ ((Wa xs (k+1) (by omega) _).2 ⟨k,h,by omega,hb,rfl⟩)]
 ·rfl
theorem xcD{seen:List Int}{x:TyI}(h:varB x=true)(hn:x.v∉seen):yJ (x0 seen x) x=⟨(seen.length:Nat),x.name,x.ar⟩:=by
 unfold yJ;rw [if_pos h,XO h hn,QV _ _ _ hn]
theorem xb7{seen:List Int}{x:TyI}(h:varB x=true)(hn:x.v∈seen):yJ (x0 seen x) x=⟨(idxN seen x.v:Nat),x.name,x.ar⟩:=by
 unfold yJ;rw [if_pos h,vm (fun _=>hn)]
theorem xcC(vs:List Int){x:TyI}(h:varB x=false):yJ vs x=x:=by unfold yJ;rw [h];rfl
def ins(n:Int):List Int->List Int
 | []=>[n]
 | x::l=>if n<x then n::x::l else x::ins n l
def putM(l:List Int)(n:Int):List Int:=if n∈l then l else ins n l
def bigB(n:Int)(l:List Int):Bool:=l.any fun x=>decide (n<x)
theorem Wq(n:Int):∀ (t r:List Int),bigB n t=false->ins n (t++r)=t++ins n r
 | [],r,_=>rfl
 | x::t,r,h=>by
  unfold bigB at h
  rw [List.any_cons,Bool.or_eq_false_iff] at h
  rw [List.cons_append,ins,if_neg (by simpa using h.1),Wq n t r h.2];rfl
theorem xbm(n:Int):∀ (t r:List Int),bigB n t=true->ins n (t++r)=ins n t++r
 | [],r,h=>by cases h
 | x::t,r,h=>by
  by_cases q:n<x
  ·rw [List.cons_append,ins,if_pos q,ins,if_pos q];rfl
  ·unfold bigB at h
   rw [List.any_cons,decide_eq_false q,Bool.false_or] at h
   rw [List.cons_append,ins,if_neg q,ins,if_neg q,xbm n t r h];rfl
theorem Zx(n:Int)(t:List Int)(x:Int):bigB n (t++[x])=(bigB n t||decide (n<x)):=by unfold bigB;rw [List.any_append];simp
def putO(l:List Int)(n:Int)(k:Nat):List Int:=if bigB n (l.take k) then ins n (l.take k) else l.take k
theorem putO_zero(l:List Int)(n:Int):putO l n 0=[]:=by unfold putO bigB;simp
theorem putO_done(l:List Int)(n:Int)(k:Nat)(h:k<l.length)(hb:bigB n (l.take k)=true):putO l n (k+1)=putO l n k++[l[k]]/\bigB n (l.take (k+1))=true:=by
 have e:l.take (k+1)=l.take k++[l[k]]:=List.take_succ_eq_append_getElem h;have hb2:bigB n (l.take (k+1))=true:=by rw [e,Zx,hb];rfl
 refine ⟨?_,hb2⟩;unfold putO;rw [if_pos hb2,if_pos hb,e,xbm n _ _ hb]
theorem putO_now(l:List Int)(n:Int)(k:Nat)(h:k<l.length)(hb:bigB n (l.take k)=false)(hn:n<l[k]):putO l n (k+1)=putO l n k++[n]++[l[k]]/\bigB n (l.take (k+1))=true:=by
 have e:l.take (k+1)=l.take k++[l[k]]:=List.take_succ_eq_append_getElem h;have hb2:bigB n (l.take (k+1))=true:=by rw [e,Zx,hb,decide_eq_true hn];rfl
 refine ⟨?_,hb2⟩;unfold putO;rw [if_pos hb2,if_neg (by rw [hb];simp),e,Wq n _ _ hb]
 have:ins n [l[k]]=[n,l[k]]:=by unfold ins;rw [if_pos hn]
 rw [this];simp
theorem putO_not(l:List Int)(n:Int)(k:Nat)(h:k<l.length)(hb:bigB n (l.take k)=false)(hn:¬ n<l[k]):putO l n (k+1)=putO l n k++[l[k]]/\bigB n (l.take (k+1))=false:=by
 have e:l.take (k+1)=l.take k++[l[k]]:=List.take_succ_eq_append_getElem h;have hb2:bigB n (l.take (k+1))=false:=by rw [e,Zx,hb,decide_eq_false hn];rfl
 refine ⟨?_,hb2⟩;unfold putO;rw [if_neg (by rw [hb2];simp),if_neg (by rw [hb];simp),e]
theorem xbF(l:List Int)(n:Int)(k:Nat):(putO l n k).length<=l.length+1:=by
 have key:∀ t:List Int,(ins n t).length=t.length+1:=by
  intro t
  induction t with
  | nil=>rfl
  | cons x t ih=>
   unfold ins;split
   ·simp
   ·simp [ih]
 unfold putO;split
 ·rw [key,List.length_take];omega
 ·rw [List.length_take];omega
theorem xaf(l:List Int)(n:Int)(hn:n∉l)(hb:bigB n (l.take l.length)=true):putM l n=putO l n l.length:=by
 unfold putM putO;rw [if_neg hn,if_pos hb,List.take_length]
theorem putM_end0(l:List Int)(n:Int)(hn:n∉l)(hb:bigB n (l.take l.length)=false):putM l n=putO l n l.length++[n]:=by
 unfold putM putO;rw [if_neg hn,if_neg (by rw [hb];simp)]
 rw [List.take_length] at hb ⊢
 have:=Wq n l [] hb;rw [List.append_nil] at this
 rw [this];rfl
theorem V1(n:Int):∀ (l:List Int) (x:Int),x∈ins n l ↔ x=n\/x∈l
 | [],x=>by simp [ins]
 | y::l,x=>by
  unfold ins;split
  ·simp
  ·rw [List.mem_cons,V1 n l x,List.mem_cons]
   constructor
   ·rintro (h|h|h)<;>simp [h]
   ·rintro (h|h|h)<;>simp [h]
theorem xbr(l:List Int)(n x:Int):x∈putM l n ↔ x=n\/x∈l:=by
 unfold putM;split
 ·rename_i h
  constructor
  ·exact .inr
  ·rintro (rfl|q)
   ·exact h
   ·exact q
 ·exact V1 n l x
abbrev Rises(l:List Int):Prop:=l.Pairwise (· < ·)
theorem QZ(n:Int):∀ l:List Int,Rises l->n∉l->Rises (ins n l)
 | [],_,_=>by simp [ins]
 | y::l,h,hn=>by
  have h:=List.pairwise_cons.1 h;unfold ins;split
  ·rename_i q
   refine List.pairwise_cons.2 ⟨fun z hz=>?_,List.pairwise_cons.2 h⟩
   rcases List.mem_cons.1 hz with rfl|hz
   ·exact q
   ·have:=h.1 z hz;omega
  ·rename_i q
   refine List.pairwise_cons.2 ⟨fun z hz=>?_,QZ n l h.2 (fun m=>hn (by simp [m]))⟩
   rcases (V1 n l z).1 hz with rfl|hz
   ·have:¬ y=z:=fun e=>hn (by simp [e])
    omega
   ·exact h.1 z hz
theorem xcR(l:List Int)(n:Int)(h:Rises l):Rises (putM l n):=by
 unfold putM;split
 ·exact h
 ·rename_i q;exact QZ n l h q
def wS(l:List Int)(x:TyI):List Int:=if varB x then putM l x.v else l
def wb(xs:List TyI):List Int:=xs.foldl wS []
theorem VA(xs:List TyI)(k:Nat)(h:k<xs.length):wb (xs.take (k+1))=wS (wb (xs.take k)) xs[k]:=by
 unfold wb;rw [List.take_succ_eq_append_getElem h,List.foldl_append];rfl
theorem QN:∀ (xs:List TyI) (l m:List Int),(∀ v,v∈l ↔ v∈m)->Rises l->(∀ v,v∈xs.foldl wS l ↔ v∈xs.foldl x0 m)/\Rises (xs.foldl wS l)
 | [],l,m,h,hr=>⟨h,hr⟩
 | x::xs,l,m,h,hr=>by
  rw [List.foldl_cons,List.foldl_cons];refine QN xs _ _ (fun v=>?_) ?_
  ·unfold wS x0
   cases hb:varB x
   ·simp [h v]
   ·by_cases q:x.v∈m
    ·rw [if_pos rfl,if_neg (fun c=>c.2 q),xbr,h v]
     constructor
     ·rintro (rfl|c)
      ·exact q
      ·exact c
     ·exact .inr
    ·rw [if_pos rfl,if_pos ⟨rfl,q⟩,xbr,h v,List.mem_append,List.mem_singleton]
     constructor
     ·rintro (c|c)
      ·exact .inr c
      ·exact .inl c
     ·rintro (c|c)
      ·exact .inr c
      ·exact .inl c
  ·unfold wS
   split
   ·exact xcR _ _ hr
   ·exact hr
theorem xap(xs:List TyI)(v:Int):v∈wb xs ↔ v∈xp xs:=(QN xs [] [] (fun _=>Iff.rfl) List.Pairwise.nil).1 v
theorem putM_len(l:List Int)(n:Int):(putM l n).length<=l.length+1:=by
 unfold putM;split
 ·omega
 ·rename_i h
  by_cases hb:bigB n (l.take l.length)=true
  ·have:=xaf l n h hb
   unfold putM at this
   rw [if_neg h] at this
   rw [this];exact xbF l n _
  ·have hb':bigB n (l.take l.length)=false:=by simpa using hb
   rw [List.take_length] at hb'
   have:=Wq n l [] hb';rw [List.append_nil] at this
   rw [this];simp [ins]
theorem xao(xs:List TyI):∀ k,k<=xs.length->(wb (xs.take k)).length<=k
 | 0,_=>by simp [wb]
 | k+1,h=>by
  rw [VA xs k (by omega)]
  have:=xao xs k (by omega)
  unfold wS;split
  ·have:=putM_len (wb (xs.take k)) xs[k].v;omega
  ·omega
end
section
open Go.RowKit Go.ChangeShapes Go.WideShapes
structure SubM where
 v:Int
 ty:List TyI
def SubM.enc(x:SubM):List D:=[.s (.int .i64 x.v),.sl 3 (x.ty.map TyI.enc)]
theorem SubM.enc_eq(x:SubM):x.enc=[.s (.int .i64 x.v),.sl 3 (x.ty.map TyI.enc)]:=rfl
end
section
end
section
open Go.RowKit
theorem WR(xs:List Int)(v:Int):FT 154 [xV xs,.s (.int .i64 v)] (fun r _=>r=.s (.int .i64 (fidx (fun x=>v==x) xs))):=by
 refine FI PM Tryz.func154 Tryz.ntmps154 [] rfl rfl ?_;refine yr 0 rfl trivial fun hlen=>?_
 simp only [List.length_map] at hlen
 (have hWf:=f0;repeat' (first|refine zS ?_|refine zI ?_ ?_|exact zF0|refine zD fun hb=>?_|exact zC|refine zT ?_|fail))
 refine xd (fun n σ=>∃ k:Nat,k<=xs.length/\n=xs.length - k/\σ.t 0=xV xs/\σ.t 1=.s (.int .i64 v)/\σ.t 7=.s (.int .i64 xs.length)/\σ.t 8=.s (.int .i64 k)/\∀ x∈xs.take k,(v==x)=false) xs.length ⟨0,by omega,by omega,?_⟩ ?_
 ·simp only [go_sem,simprocAttr,Int.natCast_zero]
  all_goals simp
 ·rintro n σ ⟨k,hk,rfl,h0,h1,h7,h8,hno⟩ K' hK
  by_cases hlt:k<xs.length
  ·have hx:=xb iE xs k hlt
   have he:=xr xs[k]
   by_cases hp:v=xs[k]
   ·have hp':(v==xs[k])=true:=by simpa using hp
    (have hWf:=w7 @h0 @h1 @h7 @h8 @hx @he @hp';repeat' (first|refine zS ?_|refine zI ?_ ?_|exact zF0|refine zD fun hb=>?_|exact zC|refine zT ?_|fail))
    exact xq (by rw [uF (fun x=>v==x) xs k hlt hno hp'])
   ·have hp':(v==xs[k])=false:=by simpa using hp
    (have hWf:=w7 @h0 @h1 @h7 @h8 @hx @he @hp';repeat' (first|refine zS ?_|refine zI ?_ ?_|exact zF0|refine zD fun hb=>?_|exact zC|refine zT ?_|fail))
    refine hK (xs.length - (k+1)) _ (by omega) ⟨k+1,by omega,rfl,?_⟩
    simp only [go_sem,simprocAttr,h0,h1,h7,Int.natCast_succ];intro x hx;rw [List.take_succ_eq_append_getElem hlt] at hx
    rcases List.mem_append.1 hx with hx|hx
    ·exact hno x hx
    ·simp at hx;rw [hx];exact hp'
  ·obtain rfl:k=xs.length:=by omega
   (have hWf:=w4 @h0 @h1 @h7 @h8;repeat' (first|refine zS ?_|refine zI ?_ ?_|exact zF0|refine zD fun hb=>?_|exact zC|refine zT ?_|fail))
   exact xq (by rw [uG (fun x=>v==x) xs (by simpa using hno)])
theorem idx_mem(xs:List Int)(v:Int):decide (fidx (fun x=>v==x) xs ≥ 0)=decide (v∈xs):=by
 rw [uv,Bool.eq_iff_iff,List.any_eq_true]
 simp
theorem zQ(xs:List Int)(v:Int):FT 192 [xV xs,.s (.int .i64 v)] (fun r _=>r=.s (.bool (decide (v∈xs)))):=by
 refine FI PM Tryz.func192 Tryz.ntmps192 [] rfl rfl ?_
 (have hWf:=f0;repeat' (first|refine zS ?_|refine zI ?_ ?_|refine zK (WR xs v) ?_|exact zF0|refine zD fun hb=>?_|exact zC|refine zT ?_|fail))
 exact sB (idx_mem xs v)
theorem vr(xs:List TyI)(hl:xs.length<=1000000000):FT 152 [.sl 3 (xs.map TyI.enc)] (fun r _=>r=.osl 3 1 ((xp xs).map iE)):=by
 refine FI PM Tryz.func152 Tryz.ntmps152 [] rfl rfl ?_
 (have hWf:=f0;repeat' (first|refine zS ?_|refine zI ?_ ?_|exact zF0|refine zD fun hb=>?_|exact zC|refine zT ?_|fail))
 refine xd (fun n σ=>∃ k:Nat,k<=xs.length/\n=xs.length - k/\σ.t 3=.bs 6 1 (xp (xs.take k)).length/\σ.b 6=some (.arr 3 1 ((xp (xs.take k)).map iE))/\σ.t 7=.sl 3 (xs.map TyI.enc)/\σ.t 8=.s (.int .i64 xs.length)/\σ.t 9=.s (.int .i64 k)) xs.length ⟨0,by omega,by omega,?_⟩ ?_
 ·simp only [go_sem,simprocAttr,Int.natCast_zero]
  simp [xp]
 ·rintro n σ ⟨k,hk,rfl,h3,h6,h7,h8,h9⟩ K' hK
  by_cases hlt:k<xs.length
  ·have hx:=xb TyI.enc xs k hlt
   have he:=TyI.enc_eq xs[k];have hvl:=Yj xs k hk
   by_cases hb:varB xs[k]=true/\xs[k].v∉xp (xs.take k)
   ·have e1:(xs[k].name.toList==[])=true:=by have:=hb.1;unfold varB at this;simpa using this
    have e2:decide (xs[k].v∈xp (xs.take k))=false:=decide_eq_false hb.2;have e3:=vl xs k hlt;rw [XO hb.1 hb.2] at e3
    (have hWf:=w10 @h3 @h6 @h7 @h8 @h9 @hx @he @lit0 @e1 @e2;repeat' (first|refine zS ?_|refine zI ?_ ?_|refine zK (zQ (xp (xs.take k)) xs[k].v) ?_|exact zF0|refine zD fun hb=>?_|exact zC|refine zT ?_|fail))
    refine hK (xs.length - (k+1)) _ (by omega) ⟨k+1,by omega,rfl,?_⟩
    simp only [go_sem,simprocAttr,h3,h6,h7,h8,h9,Int.natCast_succ,e3,List.map_append,xr]
   ·have e3:=vl xs k hlt
    rw [vm (fun q=>by simpa [q] using hb)] at e3
    by_cases q:varB xs[k]=true
    ·have e1:(xs[k].name.toList==[])=true:=by unfold varB at q;simpa using q
     have e2:decide (xs[k].v∈xp (xs.take k))=true:=by simpa [q] using hb
     (have hWf:=w10 @h3 @h6 @h7 @h8 @h9 @hx @he @lit0 @e1 @e2;repeat' (first|refine zS ?_|refine zI ?_ ?_|refine zK (zQ (xp (xs.take k)) xs[k].v) ?_|exact zF0|refine zD fun hb=>?_|exact zC|refine zT ?_|fail))
     refine hK (xs.length - (k+1)) _ (by omega) ⟨k+1,by omega,rfl,?_⟩
     simp only [go_sem,simprocAttr,h3,h6,h7,h8,h9,Int.natCast_succ,e3]
    ·have e1:(xs[k].name.toList==[])=false:=by unfold varB at q;simpa using q
     (have hWf:=w9 @h3 @h6 @h7 @h8 @h9 @hx @he @lit0 @e1;repeat' (first|refine zS ?_|refine zI ?_ ?_|refine zK (zQ (xp (xs.take k)) xs[k].v) ?_|exact zF0|refine zD fun hb=>?_|exact zC|refine zT ?_|fail))
     refine hK (xs.length - (k+1)) _ (by omega) ⟨k+1,by omega,rfl,?_⟩
     simp only [go_sem,simprocAttr,h3,h6,h7,h8,h9,Int.natCast_succ,e3]
  ·obtain rfl:k=xs.length:=by omega
   rw [List.take_length] at h3 h6
   (have hWf:=w5 @h3 @h6 @h7 @h8 @h9;repeat' (first|refine zS ?_|refine zI ?_ ?_|exact zF0|refine zD fun hb=>?_|exact zC|refine zT ?_|fail))
attribute [go_sem] frA
theorem xaV(xs:List Int)(v:Int):FT 179 [xV xs,.s (.int .i64 v)] (fun r _=>r=.s (.bool (decide (v∈xs)))):=by
 refine FI PM Tryz.func179 Tryz.ntmps179 [] rfl rfl ?_;refine yr 0 rfl trivial fun hlen=>?_
 simp only [List.length_map] at hlen
 (have hWf:=f0;repeat' (first|refine zS ?_|refine zI ?_ ?_|exact zF0|refine zD fun hb=>?_|exact zC|refine zT ?_|fail))
 refine xd (fun n σ=>∃ k:Nat,k<=xs.length/\n=xs.length - k/\σ.t 1=.s (.int .i64 v)/\σ.t 7=xV xs/\σ.t 8=.s (.int .i64 xs.length)/\σ.t 9=.s (.int .i64 k)/\∀ x∈xs.take k,x≠v) xs.length ⟨0,by omega,by omega,?_⟩ ?_
 ·simp only [go_sem,simprocAttr,Int.natCast_zero]
  all_goals simp
 ·rintro n σ ⟨k,hk,rfl,h1,h7,h8,h9,hno⟩ K' hK
  by_cases hlt:k<xs.length
  ·have hx:=xb iE xs k hlt
   have he:=xr xs[k]
   (have hWf:=w6 @h1 @h7 @h8 @h9 @hx @he;repeat' (first|refine zS ?_|refine zI ?_ ?_|exact zF0|refine zD fun hb=>?_|exact zC|refine zT ?_|fail))
   ·exact sB (decide_eq_true (by rw [<- hb];exact List.getElem_mem hlt)).symm
   ·refine hK (xs.length - (k+1)) _ (by omega) ⟨k+1,by omega,rfl,?_⟩
    simp only [go_sem,simprocAttr,h1,h7,h8,Int.natCast_succ];intro x hx;rw [List.take_succ_eq_append_getElem hlt] at hx
    rcases List.mem_append.1 hx with hx|hx
    ·exact hno x hx
    ·simp at hx;rw [hx];exact hb
  ·obtain rfl:k=xs.length:=by omega
   (have hWf:=w4 @h1 @h7 @h8 @h9;repeat' (first|refine zS ?_|refine zI ?_ ?_|exact zF0|refine zD fun hb=>?_|exact zC|refine zT ?_|fail))
   exact sB (decide_eq_false (fun q=>hno v (by simpa using q) rfl)).symm
theorem c_l05Put(xs:List Int)(v:Int)(hl:xs.length<=1048576):FT 222 [xV xs,.s (.int .i64 v)] (fun r _=>r=xV (putM xs v)):=by
 refine FCon.ice ?_;refine FI PM Tryz.func222 Tryz.ntmps222 [] rfl rfl ?_
 (have hWf:=f0;repeat' (first|refine zS ?_|refine zI ?_ ?_|exact zF0|refine zD fun hb=>?_|exact zC|refine zT ?_|fail))
 refine xd (fun n σ=>∃ k:Nat,k<=xs.length/\n=xs.length - k/\σ.t 0=xV xs/\σ.t 1=.s (.int .i64 v)/\σ.t 5=.bs 9 1 (putO xs v k).length/\σ.b 9=some (.arr 3 1 ((putO xs v k).map iE))/\σ.t 6=.s (.bool (bigB v (xs.take k)))/\σ.t 10=xV xs/\σ.t 11=.s (.int .i64 xs.length)/\σ.t 12=.s (.int .i64 k)/\∀ x∈xs.take k,x≠v) xs.length ⟨0,by omega,by omega,?_⟩ ?_
 ·simp only [go_sem,simprocAttr,Int.natCast_zero,putO_zero,List.take_zero,bigB,List.any_nil]
  all_goals simp
 ·rintro n σ ⟨k,hk,rfl,h0,h1,h5,h9,h6,h10,h11,h12,hno⟩ K' hK
  have hpl:=xbF xs v k
  by_cases hlt:k<xs.length
  ·have hx:=xb iE xs k hlt
   have he:=xr xs[k]
   by_cases hp:xs[k]=v
   ·have hp':(xs[k]==v)=true:=by simpa using hp
    (have hWf:=w10 @h0 @h1 @h5 @h9 @h6 @h10 @h11 @h12 @hx (ai @he<|@hp');repeat' (first|refine zS ?_|refine zI ?_ ?_|exact zF0|refine zD fun hb=>?_|exact zC|refine zT ?_|fail))
    rw [show putM xs v=xs by unfold putM;rw [if_pos (by rw [<- hp];exact List.getElem_mem hlt)]]
   ·have hp':(xs[k]==v)=false:=by simpa using hp
    have hno':∀ x∈xs.take (k+1),x≠v:=by
     intro x hx;rw [List.take_succ_eq_append_getElem hlt] at hx
     rcases List.mem_append.1 hx with hx|hx
     ·exact hno x hx
     ·simp at hx;rw [hx];exact hp
    cases hq:bigB v (xs.take k) with
    | true=>
     obtain ⟨q1,q2⟩:=putO_done xs v k hlt hq;rw [hq] at h6
     (have hWf:=w10 @h0 @h1 @h5 @h9 @h6 @h10 @h11 @h12 @hx (ai @he<|@hp');repeat' (first|refine zS ?_|refine zI ?_ ?_|exact zF0|refine zD fun hb=>?_|exact zC|refine zT ?_|fail))
     refine hK (xs.length - (k+1)) _ (by omega) ⟨k+1,by omega,rfl,?_⟩
     simp only [go_sem,simprocAttr,h0,h1,h5,h9,h6,h10,h11,h12,Int.natCast_succ,q1,q2,List.map_append,xr];exact hno'
    | false=>
     rw [hq] at h6
     by_cases hn:v<xs[k]
     ·have hn':decide (v<xs[k])=true:=decide_eq_true hn
      obtain ⟨q1,q2⟩:=putO_now xs v k hlt hq hn
      (have hWf:=w10 @h0 @h1 @h5 @h9 @h6 @h10 @h11 @h12 @hx (ai @he<|ai @hp'<|@hn');repeat' (first|refine zS ?_|refine zI ?_ ?_|exact zF0|refine zD fun hb=>?_|exact zC|refine zT ?_|fail))
      refine hK (xs.length - (k+1)) _ (by omega) ⟨k+1,by omega,rfl,?_⟩
      simp only [go_sem,simprocAttr,h0,h1,h5,h9,h6,h10,h11,h12,Int.natCast_succ,q1,q2,List.map_append,xr];exact hno'
     ·have hn':decide (v<xs[k])=false:=decide_eq_false hn
      obtain ⟨q1,q2⟩:=putO_not xs v k hlt hq hn
      (have hWf:=w10 @h0 @h1 @h5 @h9 @h6 @h10 @h11 @h12 @hx (ai @he<|ai @hp'<|@hn');repeat' (first|refine zS ?_|refine zI ?_ ?_|exact zF0|refine zD fun hb=>?_|exact zC|refine zT ?_|fail))
      refine hK (xs.length - (k+1)) _ (by omega) ⟨k+1,by omega,rfl,?_⟩
      simp only [go_sem,simprocAttr,h0,h1,h5,h9,h6,h10,h11,h12,Int.natCast_succ,q1,q2,List.map_append,xr];exact hno'
  ·obtain rfl:k=xs.length:=by omega
   have hni:v∉xs:=fun q=>hno v (by simpa using q) rfl
   cases hq:bigB v (xs.take xs.length) with
   | true=>
    rw [hq] at h6
    rw [xaf xs v hni hq]
    (have hWf:=w8 @h0 @h1 @h5 @h9 @h6 @h10 @h11 @h12;repeat' (first|refine zS ?_|refine zI ?_ ?_|exact zF0|refine zD fun hb=>?_|exact zC|refine zT ?_|fail))
   | false=>
    rw [hq] at h6
    rw [putM_end0 xs v hni hq]
    (have hWf:=w8 @h0 @h1 @h5 @h9 @h6 @h10 @h11 @h12;repeat' (first|refine zS ?_|refine zI ?_ ?_|exact zF0|refine zD fun hb=>?_|exact zC|refine zT ?_|fail))
    simp only [xV,List.map_append,List.map_cons,List.map_nil,xr,frzL,Go.Proofs.YtmnokalddmlogaaGreat.frz]
theorem XW(xs:List TyI)(hl:xs.length<=1048576):FT 180 [.ag [.sl 3 (xs.map TyI.enc)]] (fun r _=>r=xV (wb xs)):=by
 refine FI PM Tryz.func180 Tryz.ntmps180 [] rfl rfl ?_
 (have hWf:=f0;repeat' (first|refine zS ?_|refine zI ?_ ?_|exact zF0|refine zD fun hb=>?_|exact zC|refine zT ?_|fail))
 refine vQ (y8 6 (.arr 3 1 []) (by simp only [go_sem,simprocAttr]) rfl (xj ?_))
 simp only [go_sem,simprocAttr];refine xd (fun n σ=>∃ k:Nat,k<=xs.length/\n=xs.length - k/\σ.t 3=xV (wb (xs.take k))/\σ.t 8=.sl 3 (xs.map TyI.enc)/\σ.t 9=.s (.int .i64 xs.length)/\σ.t 10=.s (.int .i64 k)) xs.length ⟨0,by omega,by omega,?_⟩ ?_
 ·simp only [go_sem,simprocAttr,Int.natCast_zero,List.take_zero,wb,List.foldl_nil]
  rfl
 ·rintro n σ ⟨k,hk,rfl,h3,h8,h9,h10⟩ K' hK
  by_cases hlt:k<xs.length
  ·have hx:=xb TyI.enc xs k hlt
   have he:=TyI.enc_eq xs[k];have hvl:=xao xs k hk;have hcc:=c_l05Put (wb (xs.take k)) xs[k].v (by omega)
   have e3:=VA xs k hlt;unfold wS at e3
   by_cases q:varB xs[k]=true
   ·have e1:(xs[k].name.toList==[])=true:=by unfold varB at q;simpa using q
    rw [if_pos q] at e3
    (have hWf:=w8 @h3 @h8 @h9 @h10 @hx @he @lit0 @e1;repeat' (first|refine zS ?_|refine zI ?_ ?_|refine zK hcc ?_|exact zF0|refine zD fun hb=>?_|exact zC|refine zT ?_|fail))
    refine hK (xs.length - (k+1)) _ (by omega) ⟨k+1,by omega,rfl,?_⟩
    simp only [go_sem,simprocAttr,h3,h8,h9,h10,Int.natCast_succ,e3]
   ·have e1:(xs[k].name.toList==[])=false:=by unfold varB at q;simpa using q
    rw [if_neg q] at e3
    (have hWf:=w8 @h3 @h8 @h9 @h10 @hx @he @lit0 @e1;repeat' (first|refine zS ?_|refine zI ?_ ?_|refine zK hcc ?_|exact zF0|refine zD fun hb=>?_|exact zC|refine zT ?_|fail))
    refine hK (xs.length - (k+1)) _ (by omega) ⟨k+1,by omega,rfl,?_⟩
    simp only [go_sem,simprocAttr,h3,h8,h9,h10,Int.natCast_succ,e3]
  ·obtain rfl:k=xs.length:=by omega
   rw [List.take_length] at h3
   (have hWf:=w4 @h3 @h8 @h9 @h10;repeat' (first|refine zS ?_|refine zI ?_ ?_|exact zF0|refine zD fun hb=>?_|exact zC|refine zT ?_|fail))
theorem Yg{P:Program}(w:World)(dT sT ty elem:TypeId)(g o dLen dCap:Nat)(a:Addr)(sLen sCap:Nat)(cur:Array Value)(t:TypeId)(cs:List Value)
  (hu:P.underlying dT=some (.slice elem)) (hs:(P.info? elem).map (·.size)=some 2)
  (hg:w.heap[g]?=some (.cells cur t (0,0))) (hn:cs.length=Nat.min sLen dLen*2)
  (hsrc:∀ j v,cs[j]?=some v->w.cell? (a.add j)=some v) (hfit:o+cs.length<=cur.size) (h1:∀ v∈cs,v.oneCell'=true) :
  (Builtin.copy_ #[dT,sT] ty #[.slice (some ⟨g,o,none⟩) dLen dCap,.slice (some a) sLen sCap]).run P w =
   .ok (goInt (Nat.min sLen dLen)) (w.setRow g (cur.toList.take o++cs++cur.toList.drop (o+cs.length)).toArray):=by
 have hl:=run_loadCells_list (P:=P) w a cs hsrc;have hst:=run_storeCells_at P g o t cs 0 cur w hg (by simpa using hfit) h1
 cases hq:P.info? elem with
 | none=>simp [hq] at hs
 | some i=>
  have hi:i.size=2:=by simpa [hq] using hs
  simp [Builtin.copy_,run_underlying hu,Builtin.lenOf,Builtin.firstCells,sizeOf,typeInfo,hq,hi,<- hn,hl,hst]
theorem Yk{P:Program}(w:World){ops:Array Oper}{rest:List Oper}{o:Oper}{a:Act}{Q:Exit->Act->World->Prop}(hgd:o.guard=none)(d s:Operand)(t t':TypeId)
  (ho:o.op=.call { callee:=.builtin .copy,args:=#[d,s],argTypes:=#[t,t'] }) (v u:Value) (hd:a.eval d=v) (hs:a.eval s=u) {v':Value} {w':World}
  (hr:(Builtin.copy_ #[t,t'] o.type #[v,u]).run P w=.ok v' w') (h:wpList P ops Q rest (a.put o.dst v') w'):wpList P ops Q (o::rest) a w:=
 wpList_plain hgd fun K hK=>by
  unfold Oper.wp execOp;simp only [ho,resolve,invoke,builtin,Sem.run_bind,Sem.run_pure,Result.andThen_ok,List.map_toArray,List.map_cons,List.map_nil,hd,hs,hr];exact hK _ _ h
theorem Zo{P:Program}{ops:Array Oper}{o:Oper}{a:Act}{w:World}{K:Act->World->Prop}{Q:Exit->Act->World->Prop}{E:Prop}
  (hg:o.guard=none) (d x:Operand) (dT sT:TypeId) (hop:o.op=Op.call { callee:=Callee.builtin Builtin.copy,args:=#[d,x],argTypes:=#[dT,sT] })
  (v u:Value) (hd:a.eval d=v) (hx:a.eval x=u) {v':Value} {w':World} (hr:(Builtin.copy_ #[dT,sT] o.type #[v,u]).run P w=.ok v' w') (hK:K (a.put o.dst v') w') :
  if Region.wanted o (yielded ops a.tmps)=true then Oper.wp P o a w K Q else E:=by
 have hw:Region.wanted o (yielded ops a.tmps)=true:=by simp [Region.wanted,hg]
 rw [if_pos hw];unfold Oper.wp
 simp [execOp,hop,resolve,invoke,builtin,hd,hx,hr,Result.andThen]
 exact hK
theorem cell_row{w:World}{b:Nat}{cs:Array Value}{e:TypeId}(h:w.heap[b]?=some (.cells cs e (0,0)))(j:Nat):w.cell? ⟨b,j,none⟩=cs[j]?:=by simp [World.cell?,h]
theorem yV{w:World}{b:Nat}{cs:Array Value}{e:TypeId}(h:w.heap[b]?=some (.cells cs e (0,0)))(o j:Nat):w.cell? ((⟨b,o,none⟩:Addr).add j)=cs[o+j]?:=by rw [Addr.add_lit];exact cell_row h _
section
variable (w:World) (b vb n c vc:Nat) (cs vs:Array Value)
theorem ins_er(hb:w.heap[b]?=some (.cells cs 160 (0,0)))(hc:cs.size=c*2)(hv:w.heap[vb]?=some (.cells vs 160 (0,0)))
  (news:List Value) (hnl:news.length=2) (hnv:∀ (j:Nat) v,news[j]?=some v->vs[j]?=some v) (h1:∀ v∈news,v.oneCell'=true) (hroom:n+1<=c) (hmax:c<=maxLen) :
  Calls Tryz.prog 193 #[.slice (some ⟨b,0,none⟩) n c,.int .i64 n,.slice (some ⟨vb,0,none⟩) 1 vc] w fun e w'=>
   e=.returned (.slice (some ⟨b,0,none⟩) (n+1) c)/\w'=w.setRow b (cs.toList.take (n*2)++news++cs.toList.drop (n*2+2)).toArray:=by
 obtain ⟨ht,i,zv,hi,hz,hsz,hby,hzs,hk0,hz1,-,-⟩:=zF WI;have hrun:∀ ty,(Builtin.append_ #[75,75] ty #[.slice (some ⟨b,0,none⟩) n c,.slice (some ⟨vb,0,none⟩) 1 vc]).run Tryz.prog w=_:=fun ty=>
  run_append_room (P:=Tryz.prog) w _ ty _ i ht hi b n c cs hb ⟨vb,0,none⟩ 1 vc news (by rw [hsz];exact hnl) (fun j v hj=>by rw [yV hv,Nat.zero_add];exact hnv j v hj) h1 hroom (by rw [hsz,hnl,hc];omega)
 rw [hsz,hnl] at hrun
 go_enter Tryz.func193,Tryz.ntmps193
 go_wp2_with (at_builtin;refine Lib.wpList_append_run _ rfl _ _ _ _ rfl _ _ rfl rfl _ _ (hrun _) ?_)
 go_ret
 exact ⟨rfl,by simp⟩
theorem ins_eg(base:Option Addr)(hbase:(base=none/\n=0/\c=0)\/(base=some ⟨b,0,none⟩/\w.heap[b]?=some (.cells cs 160 (0,0))/\cs.size=c*2/\n<=c))(hv:w.heap[vb]?=some (.cells vs 160 (0,0)))
  (news:List Value) (hnl:news.length=2) (hnv:∀ (j:Nat) v,news[j]?=some v->vs[j]?=some v) (h1:∀ v∈news,v.oneCell'=true) (hroom:c<n+1) (hbig:n<=1000000000) :
  Calls Tryz.prog 193 #[.slice base n c,.int .i64 n,.slice (some ⟨vb,0,none⟩) 1 vc] w fun e w'=>
   ∃ zs:Array Value,zs.size=(grownCap w (n+1) c 160 - (n+1))*2/\e=.returned (.slice (some ⟨w.heap.size,0,none⟩) (n+1) (grownCap w (n+1) c 160))/\w'=w.drew.alloc (.cells ((cs.toList.take (n*2)).toArray++news.toArray++zs) 160):=by
 obtain ⟨ht,i,zv,hi,hz,hsz,hby,hzs,hk0,hz1,-,-⟩:=zF WI;have hnews:∀ (j:Nat) v,news[j]?=some v->w.cell? ((⟨vb,0,none⟩:Addr).add j)=some v:=fun j v hj=>by rw [yV hv,Nat.zero_add];exact hnv j v hj
 obtain ⟨zs,hzl,hrun⟩:∃ zs:Array Value,zs.size=(grownCap w (n+1) c 160 - (n+1))*2/\∀ ty,(Builtin.append_ #[75,75] ty #[.slice base n c,.slice (some ⟨vb,0,none⟩) 1 vc]).run Tryz.prog w=.ok (.slice (some ⟨w.heap.size,0,none⟩) (n+1) (grownCap w (n+1) c 160)) (w.drew.alloc (.cells ((cs.toList.take (n*2)).toArray++news.toArray++zs) 160)):=by
  refine ⟨Builtin.zeroCells zv.cells (grownCap w (n+1) c 160 - (n+1)),by rw [size_zeroCells,hzs],fun ty=>?_⟩
  rcases hbase with ⟨rfl,rfl,rfl⟩|⟨rfl,h2,h3,h4⟩
  ·have:=run_append_nil (P:=Tryz.prog) w _ ty _ i zv ht hi hz ⟨vb,0,none⟩ 1 vc news (by rw [hsz];exact hnl) hnews (by omega) (by omega) (by rw [hby];omega)
   simpa using this
  ·exact run_append_grow (P:=Tryz.prog) w _ ty _ i zv ht hi hz ⟨b,0,none⟩ n c (cs.toList.take (n*2)) (by rw [hsz,List.length_take,Array.length_toList,h3];simp only [Nat.min_def];split<;>omega) (fun j v hj=>by
    rw [yV h2,Nat.zero_add];rw [List.getElem?_take] at hj
    split at hj
    ·rwa [Array.getElem?_toList] at hj
    ·cases hj) ⟨vb,0,none⟩ 1 vc news (by rw [hsz];exact hnl) hnews (by omega) (by omega) (growslice_fits (by omega) (by rw [hby];omega))
 clear hbase;refine (?_:Calls Tryz.prog 193 _ w fun e w'=>e=.returned (.slice (some ⟨w.heap.size,0,none⟩) (n+1) (grownCap w (n+1) c 160))/\w'=w.drew.alloc (.cells ((cs.toList.take (n*2)).toArray++news.toArray++zs) 160)).mono fun e w' h=>⟨zs,hzl,h.1,h.2⟩
 go_enter Tryz.func193,Tryz.ntmps193
 cases base with
 | none => 
  go_wp2_with (at_builtin;refine Lib.wpList_append_run _ rfl _ _ _ _ rfl _ _ rfl rfl _ _ (hrun _) ?_)
  go_ret
  exact ⟨rfl,rfl⟩
 | some a=>
  obtain ⟨ab,ao,asp⟩:=a
  go_wp2_with (at_builtin;refine Lib.wpList_append_run _ rfl _ _ _ _ rfl _ _ rfl rfl _ _ (hrun _) ?_)
  all_goals (go_ret;exact ⟨rfl,rfl⟩)
theorem ins_ir(i:Nat)(hin:i<n)(hb:w.heap[b]?=some (.cells cs 160 (0,0)))(hc:cs.size=c*2)(hv:w.heap[vb]?=some (.cells vs 160 (0,0)))(hvb:vb≠b)
  (news:List Value) (hnl:news.length=2) (hnv:∀ (j:Nat) v,news[j]?=some v->vs[j]?=some v) (h1:∀ v∈news,v.oneCell'=true) (h1c:∀ v∈(cs.toList.drop (i*2)).take ((n - i)*2),v.oneCell'=true) (hroom:n+1<=c) (hn9:n<=1000000000) :
  Calls Tryz.prog 193 #[.slice (some ⟨b,0,none⟩) n c,.int .i64 i,.slice (some ⟨vb,0,none⟩) 1 vc] w fun e w'=>
   e=.returned (.slice (some ⟨b,0,none⟩) (n+1) c)/\∃ cs1:List Value,cs1=cs.toList.take ((i+1)*2)++(cs.toList.drop (i*2)).take ((n - i)*2)++cs.toList.drop ((i+1)*2+(n - i)*2)/\w'=(w.drew.setRow b cs1.toArray).setRow b (cs1.take (i*2)++news++cs1.drop (i*2+2)).toArray:=by
 obtain ⟨ht,i0,zv,hi,hz,hsz,hby,hzs,hk0,hz1,-,-⟩:=zF WI;have hcl:cs.toList.length=c*2:=by rw [Array.length_toList,hc]
 have hov:∀ lb cb o,(callFunc 229 #[.slice (some ⟨vb,0,none⟩) 1 vc,.slice (some ⟨b,o,none⟩) lb cb]).run Tryz.prog w=.ok (.value (.bool false)) w:=fun lb cb o=>by
  rw [run_callFunc_extern Tryz.func229 (by kernel_rfl) (by kernel_rfl) (by kernel_rfl) (e:=Extern.SlicesOverlaps.overlaps #[75,75] #[4]) (by kernel_rfl),
   Lib.run_overlaps_apart w 75 4 160 ht 2 (zZ WI) ⟨vb,0,none⟩ ⟨b,o,none⟩ 1 vc lb cb hvb 160 160 vs.size cs.size (by simp [World.shape?,hv]) (by simp [World.shape?,hb]) (by omega) (by simp [World.frozen?,hv]) (by simp [World.frozen?,hv])]
  rfl
 have hz2:¬ ((i:Int)=(n:Int)):=by omega
 have hz3:¬ ((c:Int)<(n:Int)+1):=by omega
 have hw1:IntKind.i64.wrap ((i:Int)+1)=(i:Int)+1:=by rw [IntKind.wrap_i64];omega
 have htn:((i:Int)+1).toNat=i+1:=by omega
 have hb3:(i:Int)+1<=(n:Int)+1:=by omega
 have hb5:(i:Int)<=(n:Int)+1:=by omega
 have hb1:(0:Int)<=(i:Int)+1:=by omega
 have hb2:¬ (c=i+1):=by omega
 have hb4:¬ (c=i):=by omega
 obtain ⟨mid,hmid⟩:∃ mid,mid=(cs.toList.drop (i*2)).take ((n - i)*2):=⟨_,rfl⟩;have hml:mid.length=(n - i)*2:=by rw [hmid,List.length_take,List.length_drop,hcl];simp only [Nat.min_def];split<;>omega
 rw [<- hmid] at h1c ⊢
 have hsize:(Tryz.prog.info? 160).map (·.size)=some 2:=by rw [hi];simp [hsz]
 have hcp1:∀ ty dc sc,(Builtin.copy_ #[75,75] ty #[.slice (some ⟨b,(i+1)*2,none⟩) (n - i) dc,.slice (some ⟨b,i*2,none⟩) (n+1 - i) sc]).run Tryz.prog w.drew=.ok (goInt (Nat.min (n+1 - i) (n - i))) (w.drew.setRow b (cs.toList.take ((i+1)*2)++mid++cs.toList.drop ((i+1)*2+mid.length)).toArray):=fun ty dc sc=>
  Yg w.drew _ _ ty 160 b ((i+1)*2) (n - i) dc ⟨b,i*2,none⟩ (n+1 - i) sc cs _ mid ht hsize hb (by rw [hml];simp only [Nat.min_def];split<;>omega) (fun j v hj=>by
   rw [yV (w:=w.drew) hb,<- Array.getElem?_toList];rw [hmid,List.getElem?_take] at hj
   split at hj
   ·rwa [List.getElem?_drop] at hj
   ·cases hj) (by rw [hml,hc];omega) h1c
 rw [hml] at hcp1
 obtain ⟨cs1,hcs1⟩:∃ cs1,cs1=cs.toList.take ((i+1)*2)++mid++cs.toList.drop ((i+1)*2+(n - i)*2):=⟨_,rfl⟩;rw [<- hcs1] at hcp1
 have hc1l:cs1.length=c*2:=by rw [hcs1,List.length_append,List.length_append,List.length_take,List.length_drop,hcl,hml];simp only [Nat.min_def];split<;>omega
 have hW:(w.drew.setRow b cs1.toArray).heap[b]?=some (.cells cs1.toArray 160 (0,0)):=setRow_heap w.drew b cs _ _ _ hb;have hWv:(w.drew.setRow b cs1.toArray).heap[vb]?=some (.cells vs 160 (0,0)):=by rw [setRow_other _ _ _ _ hvb];exact hv
 have hcp2:∀ ty dc,(Builtin.copy_ #[75,75] ty #[.slice (some ⟨b,i*2,none⟩) (n+1 - i) dc,.slice (some ⟨vb,0,none⟩) 1 vc]).run Tryz.prog (w.drew.setRow b cs1.toArray)=.ok (goInt (Nat.min 1 (n+1 - i))) ((w.drew.setRow b cs1.toArray).setRow b (cs1.toArray.toList.take (i*2)++news++cs1.toArray.toList.drop (i*2+news.length)).toArray):=fun ty dc=>
  Yg (w.drew.setRow b cs1.toArray) _ _ ty 160 b (i*2) (n+1 - i) dc ⟨vb,0,none⟩ 1 vc cs1.toArray _ news ht hsize hW (by rw [hnl];simp only [Nat.min_def];split<;>omega) (fun j v hj=>by
   rw [yV hWv,Nat.zero_add];exact hnv j v hj) (by rw [hnl,List.size_toArray,hc1l];omega) h1
 rw [hnl] at hcp2
 refine (?_:Calls Tryz.prog 193 _ w fun e w'=>e=.returned (.slice (some ⟨b,0,none⟩) (n+1) c)/\w'=(w.drew.setRow b cs1.toArray).setRow b (cs1.toArray.toList.take (i*2)++news++cs1.toArray.toList.drop (i*2+2)).toArray).mono fun e w' h=>⟨h.1,cs1,hcs1,h.2⟩
 have HC:=Lib.hid hcs1;clear hcs1;have HM:=Lib.hid hmid;clear hmid;have mixed:=mixed
 go_enter Tryz.func193,Tryz.ntmps193
 go_wp2_with (simp only [hov])
 go_region_law (refine Zo rfl _ _ 75 75 rfl _ _ (by simp [Act.eval,Act.put]) (by simp [Act.eval,Act.put]) (hcp1 _ _ _) ?_)
 go_wp2_with (at_builtin;refine Yk _ rfl _ _ 75 75 rfl _ _ rfl rfl (hcp2 _ _) ?_)
 go_ret
 exact ⟨rfl,by simp⟩
theorem ins_ig(i:Nat)(hin:i<n)(hb:w.heap[b]?=some (.cells cs 160 (0,0)))(hc:cs.size=c*2)(hv:w.heap[vb]?=some (.cells vs 160 (0,0)))
  (news:List Value) (hnl:news.length=2) (hnv:∀ (j:Nat) v,news[j]?=some v->vs[j]?=some v) (h1:∀ v∈news,v.oneCell'=true) (h1c:∀ v∈(cs.toList.drop (i*2)).take ((n - i)*2),v.oneCell'=true) (hnc:n<=c) (hroom:c<n+1) (hmax:c<=1000000000) :
  Calls Tryz.prog 193 #[.slice (some ⟨b,0,none⟩) n c,.int .i64 i,.slice (some ⟨vb,0,none⟩) 1 vc] w fun e w'=>
   e=.returned (.slice (some ⟨w.heap.size,0,none⟩) (n+1) (grownCap w (n+1) c 160))/\∃ (zs:List Value) (row0 row1:List Value),zs.length=(n+1 - i)*2+(grownCap w (n+1) c 160 - (n+1))*2/\row0=cs.toList.take (i*2)++zs /\
    row1=row0.take (i*2)++news++row0.drop (i*2+2)/\w'=(((w.drew.alloc (.cells row0.toArray 160)).setRow w.heap.size row1.toArray).drew).setRow w.heap.size (row1.take ((i+1)*2)++(cs.toList.drop (i*2)).take ((n - i)*2)++row1.drop ((i+1)*2+(n - i)*2)).toArray:=by
 obtain ⟨ht,i0,zv,hi,hz,hsz,hby,hzs,hk0,hz1,-,-⟩:=zF WI;have hti:Tryz.prog.underlying 3=some (.int .i64):=by kernel_rfl
 have hcl:cs.toList.length=c*2:=by rw [Array.length_toList,hc]
 have hz2:¬ ((i:Int)=(n:Int)):=by omega
 have hz3:(c:Int)<(n:Int)+1:=by omega
 have hsize:(Tryz.prog.info? 160).map (·.size)=some 2:=by rw [hi];simp [hsz]
 obtain ⟨G,hG⟩:∃ G,G=grownCap w (n+1) c 160:=⟨_,rfl⟩;have hGe:n+1<=G:=by rw [hG];exact grownCap_ge w (n+1) c _
 obtain ⟨zs,hzl,hrz⟩:∃ zs:List Value,zs.length=(n+1 - i)*2+(G - (n+1))*2/\∀ ty,(Builtin.append_ #[75,3] ty #[.slice (some ⟨b,0,none⟩) i c,.int .i64 ((n:Int)+1 - (i:Int))]).run Tryz.prog w =
   .ok (.slice (some ⟨w.heap.size,0,none⟩) (n+1) G) (w.drew.alloc (.cells (cs.toList.take (i*2)++zs).toArray 160)):=by
  refine ⟨(Builtin.zeroCells zv.cells (n+1 - i)).toList++(Builtin.zeroCells zv.cells (G - (n+1))).toList,by rw [List.length_append,Array.length_toList,Array.length_toList,size_zeroCells,size_zeroCells,hzs],fun ty=>?_⟩
  have hold:(Builtin.firstCells i0.size i (.slice (some ⟨b,0,none⟩) i c)).run Tryz.prog w.drew=.ok (cs.toList.take (i*2)).toArray w.drew:=
   run_firstCells_some (P:=Tryz.prog) w.drew i0.size i ⟨b,0,none⟩ i c (cs.toList.take (i*2)) (by rw [hsz,List.length_take,hcl];simp only [Nat.min_def];split<;>omega) (fun j v hj=>by
    rw [yV (w:=w.drew) hb,Nat.zero_add];rw [List.getElem?_take] at hj
    split at hj
    ·rwa [Array.getElem?_toList] at hj
    ·cases hj)
  have h:=Lib.run_append_grow_zeros (P:=Tryz.prog) w _ _ ty _ i0 zv .i64 .i64 ht hti hi hz (some ⟨b,0,none⟩) i c _ hold (n+1 - i) (by omega) (by omega) (by omega) (by omega) (by rw [hby];omega) (by rw [hby];exact growslice_fits (by omega) (by omega))
  have e1:i+(n+1 - i)=n+1:=by omega
  have e2:(n:Int)+1 - (i:Int)=((n+1 - i:Nat):Int):=by omega
  rw [e1,<- hG] at h
  rw [e2,h]
  congr 3
  simp
 obtain ⟨row0,hrow0⟩:∃ row0,row0=cs.toList.take (i*2)++zs:=⟨_,rfl⟩;rw [<- hrow0] at hrz
 have h0l:row0.length=G*2:=by rw [hrow0,List.length_append,List.length_take,hcl,hzl];simp only [Nat.min_def];split<;>omega
 obtain ⟨W1,hW1⟩:∃ W1,W1=w.drew.alloc (.cells row0.toArray 160):=⟨_,rfl⟩;rw [<- hW1] at hrz
 have hbw:b<w.heap.size:=(Array.getElem?_eq_some_iff.1 hb).1;have hvw:vb<w.heap.size:=(Array.getElem?_eq_some_iff.1 hv).1;have hW1n:W1.heap[w.heap.size]?=some (.cells row0.toArray 160 (0,0)):=by rw [hW1];exact heap_alloc_new w.drew _
 have hW1o:∀ b',b'<w.heap.size->W1.heap[b']?=w.heap[b']?:=fun b' q=>by rw [hW1];exact Below.heap_alloc w.drew _ _ q
 have hcp1:∀ ty dc,(Builtin.copy_ #[75,75] ty #[.slice (some ⟨w.heap.size,i*2,none⟩) (n+1 - i) dc,.slice (some ⟨vb,0,none⟩) 1 vc]).run Tryz.prog W1=.ok (goInt (Nat.min 1 (n+1 - i))) (W1.setRow w.heap.size (row0.toArray.toList.take (i*2)++news++row0.toArray.toList.drop (i*2+news.length)).toArray):=fun ty dc=>
  Yg W1 _ _ ty 160 w.heap.size (i*2) (n+1 - i) dc ⟨vb,0,none⟩ 1 vc row0.toArray _ news ht hsize hW1n (by rw [hnl];simp only [Nat.min_def];split<;>omega) (fun j v hj=>by
   rw [yV (w:=W1) ((hW1o vb hvw).trans hv),Nat.zero_add];exact hnv j v hj) (by rw [hnl,List.size_toArray,h0l];omega) h1
 rw [hnl] at hcp1
 simp only [List.toList_toArray] at hcp1
 obtain ⟨row1,hrow1⟩:∃ row1,row1=row0.take (i*2)++news++row0.drop (i*2+2):=⟨_,rfl⟩;rw [<- hrow1] at hcp1
 have h1l:row1.length=G*2:=by rw [hrow1,List.length_append,List.length_append,List.length_take,List.length_drop,h0l,hnl];simp only [Nat.min_def];split<;>omega
 obtain ⟨W2,hW2⟩:∃ W2,W2=W1.setRow w.heap.size row1.toArray:=⟨_,rfl⟩;rw [<- hW2] at hcp1
 have hW2n:W2.heap[w.heap.size]?=some (.cells row1.toArray 160 (0,0)):=by rw [hW2];exact setRow_heap W1 _ _ _ _ _ hW1n
 have hW2o:∀ b',b'<w.heap.size->W2.heap[b']?=w.heap[b']?:=fun b' q=>by rw [hW2,setRow_other _ _ _ _ (by omega)];exact hW1o b' q
 obtain ⟨mid,hmid⟩:∃ mid,mid=(cs.toList.drop (i*2)).take ((n - i)*2):=⟨_,rfl⟩;have hml:mid.length=(n - i)*2:=by rw [hmid,List.length_take,List.length_drop,hcl];simp only [Nat.min_def];split<;>omega
 rw [<- hmid] at h1c ⊢
 have hcp2:∀ ty dc sc,(Builtin.copy_ #[75,75] ty #[.slice (some ⟨w.heap.size,(i+1)*2,none⟩) (n - i) dc,.slice (some ⟨b,i*2,none⟩) (n - i) sc]).run Tryz.prog W2.drew=.ok (goInt (Nat.min (n - i) (n - i))) (W2.drew.setRow w.heap.size (row1.toArray.toList.take ((i+1)*2)++mid++row1.toArray.toList.drop ((i+1)*2+mid.length)).toArray):=fun ty dc sc=>
  Yg W2.drew _ _ ty 160 w.heap.size ((i+1)*2) (n - i) dc ⟨b,i*2,none⟩ (n - i) sc row1.toArray _ mid ht hsize hW2n (by rw [hml];simp only [Nat.min_def];split<;>omega) (fun j v hj=>by
   rw [yV (w:=W2.drew) ((hW2o b hbw).trans hb),<- Array.getElem?_toList];rw [hmid,List.getElem?_take] at hj
   split at hj
   ·rwa [List.getElem?_drop] at hj
   ·cases hj) (by rw [hml,List.size_toArray,h1l];omega) h1c
 rw [hml] at hcp2
 simp only [List.toList_toArray] at hcp2
 refine (?_:Calls Tryz.prog 193 _ w fun e w'=>e=.returned (.slice (some ⟨w.heap.size,0,none⟩) (n+1) G)/\w'=W2.drew.setRow w.heap.size (row1.take ((i+1)*2)++mid++row1.drop ((i+1)*2+(n - i)*2)).toArray).mono fun e w' h=>⟨hG ▸ h.1,zs,row0,row1,hG ▸ hzl,hrow0,hrow1,by rw [h.2,hW2,hW1]⟩
 have hw1:IntKind.i64.wrap ((i:Int)+1)=(i:Int)+1:=by rw [IntKind.wrap_i64];omega
 have htn:((i:Int)+1).toNat=i+1:=by omega
 have hb3:(i:Int)+1<=(n:Int)+1:=by omega
 have hb5:(i:Int)<=(n:Int)+1:=by omega
 have hb1:(0:Int)<=(i:Int)+1:=by omega
 have hb2:¬ (G=i+1):=by omega
 have hb4:¬ (G=i):=by omega
 have hb6:¬ (c=i):=by omega
 have hb7:(i:Int)<=(n:Int):=by omega
 have hb8:i<=n:=by omega
 have hw3:IntKind.i64.wrap ((n:Int)+1 - (i:Int))=(n:Int)+1 - (i:Int):=by rw [IntKind.wrap_i64];omega
 have H0:=Lib.hid hrow0;clear hrow0;have H1:=Lib.hid hrow1;clear hrow1;have HM:=Lib.hid hmid;clear hmid;have HG:=Lib.hid hG;clear hG;have HA:=Lib.hid hW1;clear hW1;have HB:=Lib.hid hW2;clear hW2;have mixed:=mixed
 go_enter Tryz.func193,Tryz.ntmps193
 go_wp2_with (at_builtin;first|(refine Lib.wpList_append_run _ rfl _ _ _ _ rfl _ _ rfl rfl _ _ (hrz _) ?_)|(refine Yk _ rfl _ _ 75 75 rfl _ _ rfl rfl (hcp1 _ _) ?_))
 go_region_law (refine Zo rfl _ _ 75 75 rfl _ _ (by simp [Act.eval,Act.put]) (by simp [Act.eval,Act.put]) (hcp2 _ _ _) ?_)
 go_wp2_with fail
 go_ret
 exact ⟨rfl,by simp⟩
end
theorem Rep.sl_none{S:Nat->Prop}{up:Nat->Option Pos}{w:World}{p:Option Pos}{k:Nat}{rows:List (List D)}{v:Value}(h:Rep S up w p (.sl k rows) v):Rep S up w none (.sl k rows) v:=by
 cases h with
 | sl0 h=>exact .sl0 h
 | sl us h1 h2 h3 h4 h5=>exact .sl us h1 h2 h3 h4 h5
def InsOut(w w':World)(b n:Nat)(T:List Value)(e:Ending):Prop:=
 ∃ (b' c':Nat) (cs':Array Value),e=.returned (.slice (some ⟨b',0,none⟩) (n+1) c')/\w'.heap[b']?=some (.cells cs' 160 (0,0))/\cs'.size=c'*2/\n+1<=c'/\c'<=maxLen /\
  (∀ j v,T[j]?=some v->cs'.getD j undef=v)/\(b'=b\/b'=w.heap.size)/\(∀ b0,b0<w.heap.size->b0≠b->w'.heap[b0]?=w.heap[b0]?)/\Below 0 w w'
theorem vR(w:World)(g:Nat)(cs:Array Value):Below 0 w (w.setRow g cs):=⟨rfl,rfl,rfl,by simp,fun c hc=>by omega⟩
theorem ZM(l:List Value)(j:Nat)(v:Value)(h:l[j]?=some v):l.toArray.getD j undef=v:=by
 rw [Array.getD_eq_getD_getElem?,List.getElem?_toArray,h];rfl
theorem WC{α:Type}{l l' T:List α}{j:Nat}{v:α}(h:∃ r,l=T++r)(hj:T[j]?=some v):l[j]?=some v:=by
 obtain ⟨r,rfl⟩:=h;rw [List.getElem?_append_left (List.getElem?_eq_some_iff.1 hj).1];exact hj
theorem ins_all(w:World)(b vb n c vc i:Nat)(cs vs:Array Value)(base:Option Addr)(hi:i<=n)(hbase:(base=none/\n=0/\c=0/\cs=#[]/\b=w.heap.size)\/(base=some ⟨b,0,none⟩/\w.heap[b]?=some (.cells cs 160 (0,0))/\cs.size=c*2/\n<=c))(hcm:c<=maxLen)(hv:w.heap[vb]?=some (.cells vs 160 (0,0)))(hvb:vb≠b)
  (news:List Value) (hnl:news.length=2) (hnv:∀ (j:Nat) v,news[j]?=some v->vs[j]?=some v) (h1:∀ v∈news,v.oneCell'=true) (h1c:∀ v∈cs.toList.take (n*2),v.oneCell'=true) (hn9:n<=3000000) :
  Calls Tryz.prog 193 #[.slice base n c,.int .i64 i,.slice (some ⟨vb,0,none⟩) 1 vc] w fun e w'=>InsOut w w' b n (cs.toList.take (i*2)++news++(cs.toList.drop (i*2)).take ((n - i)*2)) e:=by
 have h1c':∀ v∈(cs.toList.drop (i*2)).take ((n - i)*2),v.oneCell'=true:=fun v hv=>h1c v (by
  rw [Nat.sub_mul,<- List.drop_take] at hv
  exact List.mem_of_mem_drop hv)
 have h9:∀ k,k<=3000001->k<=maxLen:=fun k hk=>by simp only [maxLen];omega
 rcases Nat.lt_or_ge c (n+1) with hg|hr
 ·rcases Nat.lt_or_ge i n with hin|hin
  ·obtain ⟨rfl,k2,k3,k4⟩:base=some ⟨b,0,none⟩/\w.heap[b]?=some (.cells cs 160 (0,0))/\cs.size=c*2/\n<=c:=by
    rcases hbase with ⟨-,q,-⟩|q
    ·omega
    ·exact q
   have hcl:cs.toList.length=c*2:=by rw [Array.length_toList,k3]
   refine (ins_ig w b vb n c vc cs vs i hin k2 k3 hv news hnl hnv h1 h1c' k4 hg (by omega)).mono ?_
   rintro e w' ⟨rfl,zs,row0,row1,hz,h0,h1r,rfl⟩
   have hge:=grownCap_ge w (n+1) c 160;obtain ⟨G,hG⟩:∃ G,G=grownCap w (n+1) c 160:=⟨_,rfl⟩;rw [<- hG] at hz hge ⊢
   have h0l:row0.length=G*2:=by rw [h0,List.length_append,List.length_take,hcl,hz];simp only [Nat.min_def];split<;>omega
   have h1l:row1.length=G*2:=by rw [h1r,List.length_append,List.length_append,List.length_take,List.length_drop,h0l,hnl];simp only [Nat.min_def];split<;>omega
   have hml:((cs.toList.drop (i*2)).take ((n - i)*2)).length=(n - i)*2:=by rw [List.length_take,List.length_drop,hcl];simp only [Nat.min_def];split<;>omega
   refine ⟨_,_,_,rfl,setRow_heap _ _ row1.toArray _ _ _ (setRow_heap _ _ row0.toArray _ _ _ (heap_alloc_new w.drew _)),?_,hge,by rw [hG];exact grownCap_le_maxLen w _ c _ (h9 _ (by omega)),fun j v hj=>ZM _ _ _ (WC (l':=[]) ⟨row1.drop ((i+1)*2+(n - i)*2),?_⟩ hj),.inr rfl,fun b0 q _=>?_,?_⟩
   ·simp only [List.size_toArray,List.length_append,hml,List.length_take,List.length_drop,h1l,Nat.min_def];split<;>omega
   ·congr 1
    rw [List.append_cancel_right_eq];rw [h1r,h0];have e1:(cs.toList.take (i*2)++zs).take (i*2)=cs.toList.take (i*2):=by
     rw [List.take_append_of_le_length (by rw [List.length_take,hcl];simp only [Nat.min_def];split<;>omega),List.take_take,Nat.min_self]
    rw [e1,List.take_append_of_le_length (by rw [List.length_append,List.length_take,hcl,hnl];simp only [Nat.min_def];split<;>omega),List.take_of_length_le (by rw [List.length_append,List.length_take,hcl,hnl];simp only [Nat.min_def];split<;>omega)]
   ·rw [setRow_other _ _ _ _ (by omega)]
    show ((w.drew.alloc _).setRow _ _).heap[b0]?=_;rw [setRow_other _ _ _ _ (by omega)]
    exact Below.heap_alloc w.drew _ _ q
   ·exact ((((Below.refl _ _).drew.trans ((Below.refl _ _).alloc (Nat.zero_le _) _)).trans (vR _ _ _)).drew).trans (vR _ _ _)
  ·obtain rfl:i=n:=by omega
   refine (ins_eg w b vb i c vc cs vs base (by
    rcases hbase with ⟨q1,q2,q3,-,-⟩|⟨q1,q2,q3,q4⟩
    ·exact .inl ⟨q1,q2,q3⟩
    ·exact .inr ⟨q1,q2,q3,q4⟩) hv news hnl hnv h1 hg (by omega)).mono ?_
   rintro e w' ⟨zs,hz,rfl,rfl⟩
   have hge:=grownCap_ge w (i+1) c 160;have hcl:(cs.toList.take (i*2)).length=i*2:=by
    rcases hbase with ⟨-,rfl,-,rfl,-⟩|⟨-,-,q3,q4⟩
    ·rfl
    ·rw [List.length_take,Array.length_toList,q3];simp only [Nat.min_def];split<;>omega
   refine ⟨_,_,_,rfl,heap_alloc_new w.drew _,?_,hge,grownCap_le_maxLen w _ c _ (h9 _ (by omega)),fun j v hj=>?_,.inr rfl,fun b0 q _=>Below.heap_alloc w.drew _ _ q,(Below.refl _ _).drew.trans ((Below.refl _ _).alloc (Nat.zero_le _) _)⟩
   ·rw [Array.size_append,Array.size_append,List.size_toArray,List.size_toArray,hcl,hnl,hz];omega
   ·simp only [Nat.sub_self,Nat.zero_mul,List.take_zero,List.append_nil] at hj
    rw [Array.getD_eq_getD_getElem?,<- Array.getElem?_toList,Array.toList_append,Array.toList_append,WC (l':=[]) ⟨zs.toList,rfl⟩ hj];rfl
 ·obtain ⟨rfl,k2,k3,k4⟩:base=some ⟨b,0,none⟩/\w.heap[b]?=some (.cells cs 160 (0,0))/\cs.size=c*2/\n<=c:=by
   rcases hbase with ⟨-,q,q',-⟩|q
   ·omega
   ·exact q
  have hcl:cs.toList.length=c*2:=by rw [Array.length_toList,k3]
  rcases Nat.lt_or_ge i n with hin|hin
  ·refine (ins_ir w b vb n c vc cs vs i hin k2 k3 hv hvb news hnl hnv h1 h1c' hr (by omega)).mono ?_
   rintro e w' ⟨rfl,cs1,h1r,rfl⟩
   have hml:((cs.toList.drop (i*2)).take ((n - i)*2)).length=(n - i)*2:=by rw [List.length_take,List.length_drop,hcl];simp only [Nat.min_def];split<;>omega
   have h1l:cs1.length=c*2:=by rw [h1r,List.length_append,List.length_append,List.length_take,List.length_drop,hcl,hml];simp only [Nat.min_def];split<;>omega
   refine ⟨_,_,_,rfl,setRow_heap _ _ cs1.toArray _ _ _ (setRow_heap _ _ cs _ _ _ k2),?_,hr,hcm,fun j v hj=>ZM _ _ _ (WC (l':=[]) ⟨cs.toList.drop ((i+1)*2+(n - i)*2),?_⟩ hj),.inl rfl,fun b0 q q'=>?_,?_⟩
   ·simp only [List.size_toArray,List.length_append,hnl,List.length_take,List.length_drop,h1l,Nat.min_def];split<;>omega
   ·rw [h1r]
    have e1:(cs.toList.take ((i+1)*2)++(cs.toList.drop (i*2)).take ((n - i)*2)++cs.toList.drop ((i+1)*2+(n - i)*2)).take (i*2)=cs.toList.take (i*2):=by
     rw [List.append_assoc,List.take_append_of_le_length (by rw [List.length_take,hcl];simp only [Nat.min_def];split<;>omega),List.take_take]
     congr 1;simp only [Nat.min_def];split<;>omega
    have e2:(cs.toList.take ((i+1)*2)++(cs.toList.drop (i*2)).take ((n - i)*2)++cs.toList.drop ((i+1)*2+(n - i)*2)).drop (i*2+2)=(cs.toList.drop (i*2)).take ((n - i)*2)++cs.toList.drop ((i+1)*2+(n - i)*2):=by
     rw [List.append_assoc,List.drop_append_of_le_length (by rw [List.length_take,hcl];simp only [Nat.min_def];split<;>omega),List.drop_of_length_le (by rw [List.length_take,hcl];simp only [Nat.min_def];split<;>omega),List.nil_append]
    rw [e1,e2];simp
   ·rw [setRow_other _ _ _ _ q',setRow_other _ _ _ _ q'];rfl
   ·exact ((Below.refl _ _).drew.trans (vR _ _ _)).trans (vR _ _ _)
  ·obtain rfl:i=n:=by omega
   refine (ins_er w b vb i c vc cs vs k2 k3 hv news hnl hnv h1 hr hcm).mono ?_
   rintro e w' ⟨rfl,rfl⟩
   refine ⟨_,_,_,rfl,setRow_heap _ _ cs _ _ _ k2,?_,hr,hcm,fun j v hj=>?_,.inl rfl,fun b0 q q'=>setRow_other _ _ _ _ q',vR _ _ _⟩
   ·simp only [List.size_toArray,List.length_append,hnl,List.length_take,List.length_drop,hcl,Nat.min_def];split<;>omega
   ·simp only [Nat.sub_self,Nat.zero_mul,List.take_zero,List.append_nil] at hj
    exact ZM _ _ _ (WC (l':=[]) ⟨_,rfl⟩ hj)
def insL(l:List SubM)(i:Nat)(x:SubM):List SubM:=l.take i++x::l.drop i
theorem SubM.enc_len(x:SubM):x.enc.length=2:=rfl
theorem YU(l:List SubM)(cs:Array Value)(S:Nat->Prop)(up:Nat->Option Pos)(w:World)(b:Nat)(hcs:∀ (i j:Nat) (row:List D) (d:D),(l.map SubM.enc)[i]?=some row->row[j]?=some d->Rep S up w (some (.cell b (i*2+j))) d (cs.getD (i*2+j) undef))(q:Nat)(hq:q<l.length)(j:Nat)(hj:j<2) :
  ∃ d,(l[q].enc)[j]?=some d/\Rep S up w (some (.cell b (q*2+j))) d (cs.getD (q*2+j) undef):=by
 have hj':j<l[q].enc.length:=by rw [SubM.enc_len];exact hj
 exact ⟨l[q].enc[j],List.getElem?_eq_getElem hj',hcs q j _ _ (by rw [List.getElem?_map,List.getElem?_eq_getElem hq];rfl) (List.getElem?_eq_getElem hj')⟩
theorem Ut{S S':Nat->Prop}{up up':Nat->Option Pos}{w w':World}(hS:∀ b,S b->S' b/\w'.heap[b]?=w.heap[b]?){x:SubM}{j:Nat}{d:D}{p:Option Pos}{v:Value}(hd:x.enc[j]?=some d)(h:Rep S up w p d v)(p':Option Pos):Rep S' up' w' p' d v:=by
 have mv:Mv (fun _=>False) (fun p=>p) ⟨fun _=>none,fun _=>0,up,S⟩ ⟨fun _=>none,fun _=>0,up',S'⟩ w w':=⟨hS,fun b p _ q=>q.elim,fun b p o _ q=>q.elim⟩
 rw [SubM.enc_eq] at hd
 match j,hd with
 | 0,hd=>
  have hd:D.s (.int .i64 x.v)=d:=by simpa using hd
  subst hd;have:=Rep.s_inv h;subst this;exact .s rfl
 | 1,hd=>
  have hd:D.sl 3 (x.ty.map TyI.enc)=d:=by simpa using hd
  subst hd;have:=Rep.move mv (h.sl_none) (fun q hq=>by cases hq)
  exact Rep.any this p'
 | j+2,hd=>simp at hd
theorem YL(l:List SubM)(x:SubM)(i:Nat)(hi:i<=l.length)(hl:l.length<=3000000) :
  FT 193 [.osl 160 2 (l.map SubM.enc),.s (.int .i64 i),.osl 160 2 [x.enc]] (fun r o=>r=.osl 160 2 ((insL l i x).map SubM.enc)/\o=[.un,.un,.un]):=by
 refine ⟨fun vs w=>?_,fun w g vs hS hu hlen hv=>?_⟩
 ·have h1:=Tryz.func193
  have hname':¬ Tryz.f193.name = "runtime.NumGoroutine" := by decide
  have hbn:¬ Tryz.f193.body=none:=by decide
  simp [callFunc,h1,hname',hbn]
 ·obtain ⟨v0,v1,v2,rfl⟩:∃ v0 v1 v2,vs=[v0,v1,v2]:=by
   match vs,hlen with
   | [a,b,c],_=>exact ⟨a,b,c,rfl⟩
  have h0:Rep g.S g.up w (some (.par 0 0)) (.osl 160 2 (l.map SubM.enc)) v0:=hv 0 _ v0 rfl rfl;have h1:Rep g.S g.up w (some (.par 1 0)) (.s (.int .i64 i)) v1:=hv 1 _ v1 rfl rfl;have h2:Rep g.S g.up w (some (.par 2 0)) (.osl 160 2 [x.enc]) v2:=hv 2 _ v2 rfl rfl;have h1:=Rep.s_inv h1;subst h1;generalize hrx:[x.enc]=rx at h2
  cases h2 with
  | osl0=>cases hrx
  | @osl _ _ _ _ vb vc vs j1 j2 j3 j4 j5 j6 j7=>
  subst hrx;have hSh:∀ b,g.S b->b<w.heap.size/\g.up b=none:=fun b q=>⟨hS b q,by
   cases hq:g.up b with
   | none=>rfl
   | some p=>exact absurd q (hu b p hq).2⟩
  have hnew:∀ (j:Nat),j<2->∃ d,x.enc[j]?=some d/\Rep g.S g.up w (some (.cell vb j)) d (vs.getD j undef):=fun j hj=>by
   have:=YU [x] vs g.S g.up w vb j7 0 (by simp) j hj
   simpa using this
  have hvs:∀ j,j<2->vs[j]?=some (vs.getD j undef):=fun j hj=>by
   have hj':j<vs.size:=by rw [j5];simp at j3;omega
   rw [Array.getD_eq_getD_getElem?,Array.getElem?_eq_getElem hj'];rfl
  obtain ⟨base,n,c,cs,b,rfl,hn,hbase,hcm,hvb,hcell,hub⟩:∃ (base:Option Addr) (n c:Nat) (cs:Array Value) (b:Nat),v0=.slice base n c/\n=l.length/\((base=none/\n=0/\c=0/\cs=#[]/\b=w.heap.size)\/(base=some ⟨b,0,none⟩/\w.heap[b]?=some (.cells cs 160 (0,0))/\cs.size=c*2/\n<=c))/\c<=maxLen/\vb≠b /\
    (∀ (i j:Nat) (row:List D) (d:D),(l.map SubM.enc)[i]?=some row->row[j]?=some d->Rep g.S g.up w (some (.cell b (i*2+j))) d (cs.getD (i*2+j) undef))/\(b<w.heap.size->g.up b=some (.par 0 0)):=by
   generalize hrl:l.map SubM.enc=rl at h0
   cases h0 with
   | osl0=>
    have:l=[]:=by simpa using hrl
    subst this;exact ⟨none,0,0,#[],w.heap.size,rfl,rfl,.inl ⟨rfl,rfl,rfl,rfl,rfl⟩,Nat.zero_le _,fun e=>(by have:=(hu vb _ j1).1;omega),fun i j row d q=>(by simp at q),fun q=>absurd q (Nat.lt_irrefl _)⟩
   | @osl _ _ _ _ b c cs k1 k2 k3 k4 k5 k6 k7=>
    have hlen:rl.length=l.length:=by rw [<- hrl,List.length_map]
    refine ⟨some ⟨b,0,none⟩,rl.length,c,cs,b,rfl,hlen,.inr ⟨rfl,k2,k5,k3⟩,k4,fun e=>?_,k7,fun _=>k1⟩
    subst e;rw [j1] at k1;injection k1 with k1;injection k1 with k1;cases k1
  have hcsl:∀ q j,q<l.length->j<2->cs.toList[q*2+j]?=some (cs.getD (q*2+j) undef):=fun q j hq hj=>by
   rcases hbase with ⟨-,q0,-⟩|⟨-,-,q3,q4⟩
   ·omega
   ·have hlt:q*2+j<cs.size:=by omega
    rw [Array.getElem?_toList,Array.getD_eq_getD_getElem?,Array.getElem?_eq_getElem hlt];rfl
  have hone:∀ v∈cs.toList.take (n*2),v.oneCell'=true:=fun v hv'=>by
   obtain ⟨m,hm,rfl⟩:=List.getElem_of_mem hv';have hm2:m<n*2:=by rw [List.length_take] at hm;simp only [Nat.min_def] at hm;split at hm<;>omega
   obtain ⟨d,q1,q2⟩:=YU l cs g.S g.up w b hcell (m / 2) (by omega) (m % 2) (by omega)
   have e:m / 2*2+m % 2=m:=by omega
   have q3:=hcsl (m / 2) (m % 2) (by omega) (by omega)
   rw [e] at q2 q3
   have q4:=q2.one;rw [List.getElem_take];have hm3:m<cs.toList.length:=by rw [List.length_take] at hm;simp only [Nat.min_def] at hm;split at hm<;>omega
   rw [List.getElem?_eq_getElem hm3] at q3
   injection q3 with q3
   rw [q3];exact q4
  obtain ⟨news,hnews⟩:∃ news,news=[vs.getD 0 undef,vs.getD 1 undef]:=⟨_,rfl⟩;have hmain:=ins_all w b vb n c vc i cs vs base (by omega) hbase hcm j2 hvb news (by rw [hnews];rfl) (fun j v hj=>by
   rw [hnews] at hj
   match j,hj with
   | 0,hj=>
     have hj:vs.getD 0 undef=v:=by simpa using hj
     rw [hvs 0 (by omega),hj]
   | 1,hj=>
     have hj:vs.getD 1 undef=v:=by simpa using hj
     rw [hvs 1 (by omega),hj]
   | j+2,hj=>simp at hj) (fun v hv'=>by
   rw [hnews] at hv'
   obtain ⟨d0,-,q0⟩:=hnew 0 (by omega)
   obtain ⟨d1,-,q1⟩:=hnew 1 (by omega)
   simp only [List.mem_cons,List.not_mem_nil,or_false] at hv'
   rcases hv' with rfl|rfl
   ·exact q0.one
   ·exact q1.one) hone (by omega)
  refine hmain.mono ?_
  rintro e w' ⟨b',c',cs',rfl,m1,m2,m3,m4,m5,m6,m7,m8⟩
  have hother:∀ b0,b0<w.heap.size->g.up b0=none->w'.heap[b0]?=w.heap[b0]?:=fun b0 q1 q2=>m7 b0 q1 (fun e=>by subst e;rw [hub q1] at q2;cases q2)
  let up':Nat->Option Pos:=fun b0=>if b0=b' then some (.ans 0 0) else if b0=b\/b0=vb then none else g.up b0
  have hSm:∀ b0,g.S b0->g.S b0/\w'.heap[b0]?=w.heap[b0]?:=fun b0 q=>⟨q,hother b0 (hSh b0 q).1 (hSh b0 q).2⟩
  have hbs:b'<w'.heap.size:=(Array.getElem?_eq_some_iff.1 m1).1;refine ⟨_,⟨g.β,g.κ,up',g.S⟩,.osl 160 2 ((insL l i x).map SubM.enc),[.un,.un,.un],rfl,m8,hother,fun _ q=>q,fun _ _ q=>.inl q,fun b0 q=>Nat.lt_of_lt_of_le (hS b0 q) m8.size,fun b0 p hp=>?_,⟨rfl,rfl⟩,?_,fun j d u q1 q2=>?_⟩
  ·have hp:up' b0=some p:=hp
   simp only [up'] at hp
   by_cases hb0:b0=b'
   ·subst hb0
    refine ⟨hbs,fun q=>?_,fun q=>?_⟩
    ·rcases m6 with rfl|rfl
     ·rw [hub q];simp
     ·omega
    ·rcases m6 with rfl|rfl
     ·have:=hSh _ q;rw [hub this.1] at this;cases this.2
     ·have:=(hSh _ q).1;omega
   ·rw [if_neg hb0] at hp
    split at hp
    ·cases hp
    ·have:=hu b0 p hp
     exact ⟨Nat.lt_of_lt_of_le this.1 m8.size,fun _=>(by rw [hp];simp),this.2⟩
  ·show Rep g.S up' w' (some (.ans 0 0)) _ _
   have hlen:((insL l i x).map SubM.enc).length=n+1:=by
    rw [List.length_map];simp only [insL,List.length_append,List.length_cons,List.length_take,List.length_drop,Nat.min_def];split<;>omega
   rw [<- hlen];refine Rep.osl cs' (by simp [up']) m1 (by rw [hlen];exact m3) m4 m2 (fun q row hq=>?_) (fun q j row d hq hj=>?_)
   ·rw [List.getElem?_map] at hq
    obtain ⟨y,-,rfl⟩:=Option.map_eq_some_iff.1 hq
    rfl
   ·rw [List.getElem?_map] at hq
    obtain ⟨y,hy,rfl⟩:=Option.map_eq_some_iff.1 hq;have hj2:j<2:=by have:=(List.getElem?_eq_some_iff.1 hj).1;rwa [SubM.enc_len] at this
    have hcl:n*2<=cs.toList.length:=by
     rcases hbase with ⟨-,q0,-⟩|⟨-,-,q3,q4⟩
     ·omega
     ·rw [Array.length_toList,q3];omega
    have htl:(cs.toList.take (i*2)).length=i*2:=by rw [List.length_take];simp only [Nat.min_def];split<;>omega
    have hnl:news.length=2:=by rw [hnews];rfl
    rcases Nat.lt_trichotomy q i with hqi|hqi|hqi
    ·have hy':l[q]?=some y:=by
      rw [insL,List.getElem?_append_left (by rw [List.length_take];simp only [Nat.min_def];split<;>omega),List.getElem?_take_of_lt hqi] at hy
      exact hy
     obtain ⟨hq1,hq2⟩:=List.getElem?_eq_some_iff.1 hy';obtain ⟨d',r1,r2⟩:=YU l cs g.S g.up w b hcell q hq1 j hj2;rw [hq2,hj] at r1;injection r1 with r1;subst r1
     have hv:=m5 (q*2+j) _ (by
      rw [List.append_assoc,List.getElem?_append_left (by rw [htl];omega),List.getElem?_take_of_lt (by omega)]
      exact hcsl q j hq1 hj2)
     rw [hv];exact Ut hSm hj r2 _
    ·subst hqi
     have hy':x=y:=by
      rw [insL,List.getElem?_append_right (by rw [List.length_take];simp only [Nat.min_def];split<;>omega),List.length_take,Nat.min_eq_left (by omega),Nat.sub_self] at hy
      simpa using hy
     subst hy';obtain ⟨d',r1,r2⟩:=hnew j hj2;rw [hj] at r1;injection r1 with r1;subst r1
     have hv:=m5 (q*2+j) (vs.getD j undef) (by
      rw [List.append_assoc,List.getElem?_append_right (by rw [htl];omega),htl,List.getElem?_append_left (by rw [hnl];omega),Nat.add_sub_cancel_left,hnews]
      match j,hj2 with
      | 0,_=>rfl
      | 1,_=>rfl)
     rw [hv];exact Ut hSm hj r2 _
    ·have hy':l[q - 1]?=some y:=by
      rw [insL,List.getElem?_append_right (by rw [List.length_take];simp only [Nat.min_def];split<;>omega),List.length_take,Nat.min_eq_left (by omega),show q - i=(q - 1 - i)+1 by omega,List.getElem?_cons_succ,List.getElem?_drop] at hy
      rwa [show i+(q - 1 - i)=q - 1 by omega] at hy
     obtain ⟨hq1,hq2⟩:=List.getElem?_eq_some_iff.1 hy';obtain ⟨d',r1,r2⟩:=YU l cs g.S g.up w b hcell (q - 1) hq1 j hj2;rw [hq2,hj] at r1;injection r1 with r1;subst r1
     have hv:=m5 (q*2+j) _ (by
      rw [List.append_assoc,List.getElem?_append_right (by rw [htl];omega),htl,List.getElem?_append_right (by rw [hnl];omega),hnl,List.getElem?_take_of_lt (by omega),List.getElem?_drop,show i*2+(q*2+j - i*2 - 2)=(q - 1)*2+j by omega]
      exact hcsl (q - 1) j hq1 hj2)
     rw [hv];exact Ut hSm hj r2 _
  ·match j,q1 with
   | 0,q1=>
     have q1:D.un=d:=by simpa using q1
     subst q1;trivial
   | 1,q1=>
     have q1:D.un=d:=by simpa using q1
     subst q1;trivial
   | 2,q1=>
     have q1:D.un=d:=by simpa using q1
     subst q1;trivial
   | j+3,q1=>simp at q1
theorem grow_gP(w:World)(k:Nat)(h0:0<k)(hk:k<=1000000000) :
  Calls Tryz.prog 158 #[.slice none 0 0,.int .i64 k] w fun e w'=>
   ∃ cs:Array Value,cs.size=grownCap w k 0 96/\k<=grownCap w k 0 96/\e=.returned (.slice (some ⟨w.heap.size,0,none⟩) 0 (grownCap w k 0 96))/\w'=w.drew.alloc (.cells cs 96):=by
 obtain ⟨ht,i,zv,hi,hz,hsz,hby,hzs,hk0,hz1,-,-⟩:=zF tk_121;have hge:=grownCap_ge w k 0 96;obtain ⟨cs,hcs,hrun⟩:∃ cs:Array Value,cs.size=grownCap w k 0 96/\∀ ty,(Builtin.append_ #[121,3] ty #[.slice none 0 0,.int .i64 k]).run Tryz.prog w=.ok (.slice (some ⟨w.heap.size,0,none⟩) k (grownCap w k 0 96)) (w.drew.alloc (.cells cs 96)):=by
  refine ⟨Builtin.zeroCells zv.cells k++Builtin.zeroCells zv.cells (grownCap w k 0 96 - k),?_,fun ty=>?_⟩
  ·rw [Array.size_append,size_zeroCells,size_zeroCells,hzs]
   omega
  ·have:=Lib.run_append_nil_zeros (P:=Tryz.prog) w 121 3 ty _ i zv .i64 .i64 ht rfl hi hz k h0 (by rw [hsz];omega) (by omega) (by rw [hby];omega)
   simpa using this
 refine (?_:Calls Tryz.prog 158 _ w fun e w'=>e=.returned (.slice (some ⟨w.heap.size,0,none⟩) 0 (grownCap w k 0 96))/\w'=w.drew.alloc (.cells cs 96)).mono fun e w' h=>⟨cs,hcs,hge,h.1,h.2⟩
 go_enter Tryz.func158,Tryz.ntmps158
 have hn:((k:Int)<0)=False:=by simp
 go_wp2_with (at_builtin;refine Lib.wpList_append_run _ rfl _ _ _ _ rfl _ _ rfl rfl _ _ (hrun _) ?_)
 go_ret
 exact ⟨rfl,rfl⟩
theorem grow_0P(w:World) :
  Calls Tryz.prog 158 #[.slice none 0 0,.int .i64 0] w fun e w'=>e=.returned (.slice none 0 0)/\w'=w:=by
 go_enter Tryz.func158,Tryz.ntmps158
 go_wp2_with fail
 go_ret
 exact ⟨rfl,rfl⟩
theorem c_GrowP(k:Nat)(hk:k<=1000000000) :
  FT 158 [.nil,.s (.int .i64 k)] (fun r _=>r=.osl 96 1 []):=by
 refine ⟨fun vs w=>?_,fun w g vs hS hu hlen hv=>?_⟩
 ·have h1:=Tryz.func158
  have hname':¬ Tryz.f158.name = "runtime.NumGoroutine" := by decide
  have hbn:¬ Tryz.f158.body=none:=by decide
  simp [callFunc,h1,hname',hbn]
 ·obtain ⟨v0,v1,rfl⟩:∃ v0 v1,vs=[v0,v1]:=by
   match vs,hlen with
   | [a,b],_=>exact ⟨a,b,rfl⟩
  have h0:Rep g.S g.up w (some (.par 0 0)) .nil v0:=hv 0 _ v0 rfl rfl;have h1:Rep g.S g.up w (some (.par 1 0)) (.s (.int .i64 k)) v1:=hv 1 _ v1 rfl rfl;have h1:=Rep.s_inv h1;subst h1;obtain rfl:v0=.slice none 0 0:=by cases h0;rfl
  have hout:∀ (g':Gh) (w':World) (j:Nat) (d:D) (u:Value),[D.un,D.un][j]?=some d->[Value.slice none 0 0,Value.int .i64 k][j]?=some u->RU g' w' j d u:=fun g' w' j d u q1 q2=>by
   match j,q1 with
   | 0,q1=>
     have q1:D.un=d:=by simpa using q1
     subst q1;trivial
   | 1,q1=>
     have q1:D.un=d:=by simpa using q1
     subst q1;trivial
   | j+2,q1=>simp at q1
  cases k with
  | zero=>
   refine (grow_0P w).mono ?_
   rintro e w' ⟨rfl,rfl⟩
   refine ⟨_,g,.osl 96 1 [],[.un,.un],rfl,Below.refl _ _,fun _ _ _=>rfl,fun _ q=>q,fun _ _ q=>.inl q,hS,fun b p hp=>⟨(hu b p hp).1,fun _=>(by rw [hp];simp),(hu b p hp).2⟩,rfl,?_,hout _ _⟩
   show Rep g.S g.up w' (some (.ans 0 0)) _ _;exact .osl0
  | succ k=>
   refine (grow_gP w (k+1) (by omega) hk).mono ?_
   rintro e w' ⟨cs,m1,m2,rfl,rfl⟩
   let up':Nat->Option Pos:=fun b0=>if b0=w.heap.size then some (.ans 0 0) else g.up b0
   have hsz:(w.drew.alloc (.cells cs 96)).heap.size=w.heap.size+1:=by simp
   have hlt:∀ b0,g.S b0->b0≠w.heap.size:=fun b0 q=>Nat.ne_of_lt (hS b0 q)
   have hold:∀ b0,b0<w.heap.size->(w.drew.alloc (.cells cs 96)).heap[b0]?=w.heap[b0]?:=fun b0 q=>by
    show (w.heap.push _)[b0]?=_;rw [Array.getElem?_push_lt q,Array.getElem?_eq_getElem q]
   refine ⟨_,⟨g.β,g.κ,up',g.S⟩,.osl 96 1 [],[.un,.un],rfl,?_,fun b0 q _=>hold b0 q,fun _ q=>q,fun _ _ q=>.inl q,fun b0 q=>(by rw [hsz];have:=hS b0 q;omega),fun b0 p hp=>?_,rfl,?_,hout _ _⟩
   ·exact Below.alloc (Below.refl _ _).drew (Nat.zero_le _) _
   ·have hp:up' b0=some p:=hp
    simp only [up'] at hp
    rw [hsz];split at hp
    ·subst_vars
     exact ⟨by omega,fun q=>absurd q (Nat.lt_irrefl _),fun q=>hlt _ q rfl⟩
    ·have:=hu b0 p hp
     exact ⟨by omega,fun _=>(by rw [hp];simp),this.2⟩
   ·show Rep g.S up' _ (some (.ans 0 0)) _ _
    exact .osl (rows:=[]) cs (by simp [up']) (heap_alloc_new w.drew _) (Nat.zero_le _) (grownCap_le_maxLen w (k+1) 0 _ (by unfold maxLen;omega)) (by omega) (fun i row q=>by simp at q) (fun i j row d q=>by simp at q)
theorem xa2(s:SubM)(v:Int):FT 191 [.ag s.enc,.pt [.s (.int .i64 v)]] (fun r _=>r=.s (.bool (s.v==v))):=by
 refine FI PM Tryz.func191 Tryz.ntmps191 [] rfl rfl ?_
 (have hWf:=w1 @SubM.enc_eq;repeat' (first|refine zS ?_|refine zI ?_ ?_|exact zF0|refine zD fun hb=>?_|exact zC|refine zT ?_|fail))
theorem XU(xs:List SubM)(f:FuncId)(caps:List D)(hm:PM.md f=[])(p:SubM->Bool)(hf:∀ x∈xs,FT f (.ag x.enc::caps) (fun r _=>r=.s (.bool (p x)))) :
  FT 190 [.sl 2 (xs.map SubM.enc),.fn f caps] (fun r _=>r=.s (.int .i64 (fidx p xs))):=by
 refine FI PM Tryz.func190 Tryz.ntmps190 [] rfl rfl ?_;refine yr 0 rfl trivial fun hlen=>?_
 simp only [List.length_map] at hlen
 (have hWf:=f0;repeat' (first|refine zS ?_|refine zI ?_ ?_|exact zF0|refine zD fun hb=>?_|exact zC|refine zT ?_|fail))
 refine xd (fun n σ=>∃ k:Nat,k<=xs.length/\n=xs.length - k/\σ.t 0=.sl 2 (xs.map SubM.enc)/\σ.t 1=.fn f caps/\σ.t 7=.s (.int .i64 xs.length)/\σ.t 8=.s (.int .i64 k)/\∀ x∈xs.take k,p x=false) xs.length ⟨0,by omega,by omega,?_⟩ ?_
 ·simp only [go_sem,simprocAttr,Int.natCast_zero]
  all_goals simp
 ·rintro n σ ⟨k,hk,rfl,h0,h1,h7,h8,hno⟩ K' hK
  by_cases hlt:k<xs.length
  ·have hx:=xb SubM.enc xs k hlt
   have he:=SubM.enc_eq xs[k];have hfk:=hf xs[k] (List.getElem_mem hlt);rw [he] at hfk
   cases hp:p xs[k] with
   | true=>
    rw [hp] at hfk
    (have hWf:=w7 @h0 @h1 @h7 @h8 @hx @he @hm;repeat' (first|refine zS ?_|refine zI ?_ ?_|refine zK hfk ?_|exact zF0|refine zD fun hb=>?_|exact zC|refine zT ?_|fail))
    all_goals exact xq (by rw [uF p xs k hlt hno hp])
   | false=>
    rw [hp] at hfk
    (have hWf:=w7 @h0 @h1 @h7 @h8 @hx @he @hm;repeat' (first|refine zS ?_|refine zI ?_ ?_|refine zK hfk ?_|exact zF0|refine zD fun hb=>?_|exact zC|refine zT ?_|fail))
    refine hK (xs.length - (k+1)) _ (by omega) ⟨k+1,by omega,rfl,?_⟩
    simp only [go_sem,simprocAttr,h0,h1,h7,Int.natCast_succ];exact uf hlt hno hp
  ·obtain rfl:k=xs.length:=by omega
   (have hWf:=w4 @h0 @h1 @h7 @h8;repeat' (first|refine zS ?_|refine zI ?_ ?_|exact zF0|refine zD fun hb=>?_|exact zC|refine zT ?_|fail))
   exact xq (by rw [uG p xs (by simpa using hno)])
theorem c_subAt(l:List SubM)(v:Int):FT 149 [.sl 2 (l.map SubM.enc),.s (.int .i64 v)] (fun r _=>r=.s (.int .i64 (fidx (fun s=>s.v==v) l))):=by
 refine FI PM Tryz.func149 Tryz.ntmps149 [] rfl rfl ?_
 (refine xj ?_;simp only [go_sem,simprocAttr];(have hWf:=f0;repeat' (first|refine zY ?_|refine zI ?_ ?_|exact zF1|refine zD fun hb=>?_|exact zC|refine zT ?_|fail)))
 refine y8 3 (.box [.s (.int .i64 v)]) (by simp only [go_sem,simprocAttr]) rfl ?_
 (have hWf:=f0;repeat' (first|refine zS ?_|refine zI ?_ ?_|((with_reducible apply xc);refine zG (XU l _ [.pt [.s (.int .i64 v)]] rfl (fun s=>s.v==v) (fun s _=>xa2 s v)) ?_)|((with_reducible apply xf);refine xe (XU l _ [.pt [.s (.int .i64 v)]] rfl (fun s=>s.v==v) (fun s _=>xa2 s v)) ?_)|exact zF0|refine zD fun hb=>?_|exact zC|refine zT ?_|fail))
def putI(l:List SubM)(x:TyI):List TyI:=if varB x=true then (match l.find? (fun s=>s.v==x.v) with|some s=>s.ty|none=>[x]) else [x]
def putX(l:List SubM)(xs:List TyI):List TyI:=xs.flatMap (putI l)
theorem xag(l:List SubM){xs:List TyI}{k:Nat}(h:k<xs.length):putX l (xs.take (k+1))=putX l (xs.take k)++putI l xs[k]:=by
 unfold putX;rw [List.take_succ_eq_append_getElem h,List.flatMap_append];simp
theorem putX_le(l:List SubM)(xs:List TyI)(k:Nat):(putX l (xs.take k)).length<=(putX l xs).length:=by
 have:putX l xs=putX l (xs.take k)++putX l (xs.drop k):=by unfold putX;rw [<- List.flatMap_append,List.take_append_drop]
 rw [this,List.length_append];omega
theorem QJ{α:Type}(p:α->Bool):∀ l:List α,(fidx p l = -1/\l.find? p=none)\/∃ (k:Nat) (h:k<l.length),fidx p l=k/\l.find? p=some l[k]
 | []=>.inl ⟨rfl,rfl⟩
 | x::l=>by
  cases hp:p x with
  | true=>exact .inr ⟨0,by simp,by rw [fidx,if_pos hp];rfl,by rw [List.find?_cons,hp];rfl⟩
  | false=>
   have e1:fidx p (x::l)=if fidx p l<0 then -1 else fidx p l+1:=by rw [fidx,if_neg (by rw [hp];simp)]
   rcases QJ p l with ⟨h1,h2⟩|⟨k,h,h1,h2⟩
   ·exact .inl ⟨by rw [e1,h1];rfl,by rw [List.find?_cons,hp];exact h2⟩
   ·refine .inr ⟨k+1,by simpa using h,?_,?_⟩
    ·rw [e1,h1,if_neg (by omega)];push_cast;rfl
    ·rw [List.find?_cons,hp];simpa using h2
theorem Xc(xs:List TyI)(l:List SubM)(hl:xs.length<=1000000000)(hb0:(putX l xs).length<=2199023255552):FT 102 [.sl 3 (xs.map TyI.enc),.sl 2 (l.map SubM.enc)] (fun r _=>r=.osl 143 3 ((putX l xs).map TyI.own)):=by
 refine FI PM Tryz.func102 Tryz.ntmps102 [] rfl rfl ?_
 (have hWf:=f0;repeat' (first|refine zS ?_|refine zI ?_ ?_|exact zF0|refine zD fun hb=>?_|exact zC|refine zT ?_|fail))
 refine xd (fun n σ=>∃ k:Nat,k<=xs.length/\n=xs.length - k/\σ.t 1=.sl 2 (l.map SubM.enc)/\σ.t 5=.bs 9 3 (putX l (xs.take k)).length/\σ.b 9=some (.arr 143 3 ((putX l (xs.take k)).map TyI.own))/\σ.t 10=.sl 3 (xs.map TyI.enc)/\σ.t 11=.s (.int .i64 xs.length)/\σ.t 12=.s (.int .i64 k)) xs.length ⟨0,by omega,by omega,?_⟩ ?_
 ·simp only [go_sem,simprocAttr,Int.natCast_zero,List.take_zero,putX,List.flatMap_nil]
 ·rintro n σ ⟨k,hk,rfl,h1,h5,h9,h10,h11,h12⟩ K' hK
  by_cases hlt:k<xs.length
  ·have hx:=xb TyI.enc xs k hlt
   have he:=TyI.enc_eq xs[k];have e3:=xag l hlt;have hle:=putX_le l xs (k+1);rw [e3,List.length_append] at hle
   by_cases q:varB xs[k]=true
   ·have e1:(xs[k].name.toList==[])=true:=by unfold varB at q;simpa using q
    rcases QJ (fun s:SubM=>s.v==xs[k].v) l with ⟨f1,f2⟩|⟨j,hj,f1,f2⟩
    ·have e4:putI l xs[k]=[xs[k]]:=by unfold putI;rw [if_pos q,f2]
     rw [e4] at e3 hle
     (have hWf:=w10 @h1 @h5 @h9 @h10 @h11 @h12 @hx @he @lit0 (ai @e1<|@f1);repeat' (first|refine zS ?_|refine zI ?_ ?_|refine zK (c_subAt l xs[k].v) ?_|exact zF0|refine zD fun hb=>?_|exact zC|refine zT ?_|fail))
     refine hK (xs.length - (k+1)) _ (by omega) ⟨k+1,by omega,rfl,?_⟩
     simp only [go_sem,simprocAttr,h1,h5,h9,h10,h11,h12,Int.natCast_succ,e3,List.map_append,TyI.own_eq]
    ·have e4:putI l xs[k]=l[j].ty:=by unfold putI;rw [if_pos q,f2]
     rw [e4] at e3 hle
     have hy:=xb SubM.enc l j hj;have hey:=SubM.enc_eq l[j]
     (have hWf:=w10 @h1 @h5 @h9 @h10 @h11 @h12 @hx @he @lit0 (ai @e1<|ai @f1<|ai @hy<|@hey);repeat' (first|refine zS ?_|refine zI ?_ ?_|refine zK (c_subAt l xs[k].v) ?_|exact zF0|refine zD fun hb=>?_|exact zC|refine zT ?_|fail))
     refine hK (xs.length - (k+1)) _ (by omega) ⟨k+1,by omega,rfl,?_⟩
     simp only [go_sem,simprocAttr,h1,h5,h9,h10,h11,h12,Int.natCast_succ,e3,List.map_append,TyI.own_eq]
   ·have e1:(xs[k].name.toList==[])=false:=by unfold varB at q;simpa using q
    have e4:putI l xs[k]=[xs[k]]:=by unfold putI;rw [if_neg q]
    rw [e4] at e3 hle
    (have hWf:=w10 @h1 @h5 @h9 @h10 @h11 @h12 @hx @he @lit0 @e1;repeat' (first|refine zS ?_|refine zI ?_ ?_|exact zF0|refine zD fun hb=>?_|exact zC|refine zT ?_|fail))
    refine hK (xs.length - (k+1)) _ (by omega) ⟨k+1,by omega,rfl,?_⟩
    simp only [go_sem,simprocAttr,h1,h5,h9,h10,h11,h12,Int.natCast_succ,e3,List.map_append,TyI.own_eq]
  ·obtain rfl:k=xs.length:=by omega
   rw [List.take_length] at h5 h9
   (have hWf:=w6 @h1 @h5 @h9 @h10 @h11 @h12;repeat' (first|refine zS ?_|refine zI ?_ ?_|exact zF0|refine zD fun hb=>?_|exact zC|refine zT ?_|fail))
def accI(l:List SubM)(x:TyI):List TyI:=if varB x=true then (l.filter fun s=>s.v==x.v).flatMap SubM.ty else []
def hitI(l:List SubM)(x:TyI):Bool:=varB x&&l.any fun s=>s.v==x.v
theorem accI_step{l:List SubM}(x:TyI){j:Nat}(h:j<l.length):accI (l.take (j+1)) x=accI (l.take j) x++(if (varB x&&l[j].v==x.v)=true then l[j].ty else []):=by
 unfold accI;rw [List.take_succ_eq_append_getElem h,List.filter_append];cases varB x<;>cases hq:(l[j].v==x.v)<;>simp [hq]
theorem hitI_step{l:List SubM}(x:TyI){j:Nat}(h:j<l.length):hitI (l.take (j+1)) x=(hitI (l.take j) x||(varB x&&l[j].v==x.v)):=by
 unfold hitI;rw [List.take_succ_eq_append_getElem h,List.any_append];cases varB x<;>simp
theorem xaL(v:Int):∀ l:List SubM,l.Pairwise (fun a b=>a.v≠b.v)->(l.filter fun s=>s.v==v).flatMap SubM.ty=match l.find? (fun s=>s.v==v) with|some s=>s.ty|none=>[]
 | [],_=>rfl
 | s::l,h=>by
  obtain ⟨h1,h2⟩:=List.pairwise_cons.1 h;cases hq:(s.v==v) with
  | true=>
   have hn:l.filter (fun s=>s.v==v)=[]:=List.filter_eq_nil_iff.2 fun y hy e=>by
    have e1:y.v=v:=by simpa using e
    have e2:s.v=v:=by simpa using hq
    exact h1 y hy (e2.trans e1.symm)
   rw [List.filter_cons,hq,List.find?_cons,hq,if_pos rfl,hn];simp
  | false=>rw [List.filter_cons,hq,List.find?_cons,hq,if_neg (by simp)];exact xaL v l h2
theorem putI_acc{l:List SubM}(h:l.Pairwise (fun a b=>a.v≠b.v))(x:TyI):putI l x=accI l x++(if hitI l x=true then [] else [x]):=by
 unfold putI accI hitI;cases varB x with
 | false=>simp
 | true=>
  rw [if_pos rfl,if_pos rfl,xaL x.v l h];cases hf:l.find? (fun s=>s.v==x.v) with
  | none=>
   have:(l.any fun s=>s.v==x.v)=false:=List.any_eq_false.2 fun s hs=>by have:=List.find?_eq_none.1 hf s hs;simpa using this
   rw [this];simp
  | some s=>
   have:(l.any fun s=>s.v==x.v)=true:=List.any_eq_true.2 ⟨s,List.mem_of_find?_eq_some hf,List.find?_some (p:=fun s:SubM=>s.v==x.v) hf⟩
   rw [this];simp
theorem accI_le(l:List SubM)(x:TyI)(j:Nat):(accI (l.take j) x).length<=(accI l x).length:=by
 have:accI l x=accI (l.take j) x++accI (l.drop j) x:=by
  unfold accI;cases varB x with
  | false=>simp
  | true=>simp only [if_true];rw [<- List.flatMap_append,<- List.filter_append,List.take_append_drop]
 rw [this,List.length_append];omega
theorem xcu(xs:List TyI)(l:List SubM)(hl:xs.length<=1000000000)(hl2:l.length<=3000000)(hu:l.Pairwise (fun a b=>a.v≠b.v))(hb0:(putX l xs).length<=2199023255552):FT 39 [.ag [.sl 3 (xs.map TyI.enc)],.sl 2 (l.map SubM.enc)] (fun r _=>r=.ag [.osl 143 3 ((putX l xs).map TyI.own)]):=by
 refine FI PM Tryz.func39 Tryz.ntmps39 [] rfl rfl ?_
 (have hWf:=f0;repeat' (first|refine zS ?_|refine zI ?_ ?_|exact zF0|refine zD fun hb=>?_|exact zC|refine zT ?_|fail))
 refine vQ (Yt 5 0 99 143 3 (row:=[.nil]) (by simp only [go_sem,simprocAttr]) rfl (by decide) (by decide) (xj ?_))
 simp only [go_sem,simprocAttr];refine xd (fun n σ=>∃ k:Nat,k<=xs.length/\n=xs.length - k/\σ.t 1=.sl 2 (l.map SubM.enc)/\σ.t 4=.bx 4 0/\σ.b 4=some (.box [.nil])/\σ.t 5=.bx 5 0/\σ.b 5=some (.box [.bs 99 3 (putX l (xs.take k)).length])/\σ.b 99=some (.arr 143 3 ((putX l (xs.take k)).map TyI.own))/\σ.t 13=.sl 3 (xs.map TyI.enc)/\σ.t 14=.s (.int .i64 xs.length)/\σ.t 15=.s (.int .i64 k)) xs.length ⟨0,by omega,by omega,?_⟩ ?_
 ·simp only [go_sem,simprocAttr,Int.natCast_zero,List.take_zero,putX,List.flatMap_nil]
  all_goals trace_state
 ·rintro n σ ⟨k,hk,rfl,h1,h4,hb4,h5,hb5,hb9,h13,h14,h15⟩ K' hK
  by_cases hlt:k<xs.length
  ·have hx:=xb TyI.enc xs k hlt
   have he:=TyI.enc_eq xs[k];have e3:=xag l hlt;have hle:=putX_le l xs (k+1);rw [putI_acc hu] at e3
   rw [e3,List.length_append,List.length_append] at hle
   have hac:=accI_le l xs[k]
   (have hWf:=w10 @h1 @h4 @hb4 @h5 @hb5 @hb9 @h13 @h14 @h15 (ai @hx<|@he);repeat' (first|refine zS ?_|refine zI ?_ ?_|exact zF0|refine zD fun hb=>?_|exact zC|refine zT ?_|fail))
   refine xd (fun n σ=>∃ j:Nat,j<=l.length/\n=l.length - j/\σ.t 1=.sl 2 (l.map SubM.enc)/\σ.t 4=.bx 4 0/\σ.b 4=some (.box [.nil])/\σ.t 5=.bx 5 0/\σ.b 5=some (.box [.bs 99 3 ((putX l (xs.take k)).length+(accI (l.take j) xs[k]).length)])/\σ.b 99=some (.arr 143 3 ((putX l (xs.take k)).map TyI.own++(accI (l.take j) xs[k]).map TyI.own))/\σ.t 7=.bx 7 0/\σ.b 7=some (.box [.s (.int .i64 xs[k].v),.s (.string xs[k].name),.s (.int .i64 xs[k].ar)])/\σ.t 8=.s (.bool (hitI (l.take j) xs[k]))/\σ.t 13=.sl 3 (xs.map TyI.enc)/\σ.t 14=.s (.int .i64 xs.length)/\σ.t 15=.s (.int .i64 k)/\σ.t 19=.sl 2 (l.map SubM.enc)/\σ.t 20=.s (.int .i64 l.length)/\σ.t 21=.s (.int .i64 j)) l.length ⟨0,by omega,by omega,?_⟩ ?_
   ·have z1:accI ([]:List SubM) xs[k]=[]:=by unfold accI;simp
    have z2:hitI ([]:List SubM) xs[k]=false:=by unfold hitI;simp
    simp only [go_sem,simprocAttr,h1,h4,hb4,h5,hb5,hb9,h13,h14,h15,Int.natCast_zero,List.take_zero,z1,z2]
    all_goals trace_state
   ·rintro n σ ⟨j,hj,rfl,g1,g4,gb4,g5,gb5,gb9,g7,gb7,g8,g13,g14,g15,g19,g20,g21⟩ K'' hK''
    by_cases hltj:j<l.length
    ·have gx:=xb SubM.enc l j hltj
     have ge:=SubM.enc_eq l[j];have a1:=accI_step xs[k] hltj;have a2:=hitI_step xs[k] hltj;have a3:=hac (j+1);have a4:=hac j;rw [a1,List.length_append] at a3
     by_cases q:varB xs[k]=true
     ·have e1:(xs[k].name.toList==[])=true:=by unfold varB at q;simpa using q
      cases q2:(l[j].v==xs[k].v) with
      | true=>
       rw [q,q2] at a1 a2 a3
       simp only [Bool.and_self,if_true,Bool.or_true] at a1 a2 a3
       (have hWf:=w10 @g1 @g4 @gb4 @g5 @gb5 @gb9 @g7 @gb7 @g8 (ai @g13<|ai @g14<|ai @g15<|ai @g19<|ai @g20<|ai @g21<|ai @gx<|ai @ge<|ai @lit0<|ai @e1<|@q2);repeat' (first|refine zS ?_|refine zI ?_ ?_|exact zF0|refine zD fun hb=>?_|exact zC|refine zT ?_|fail))
       refine hK'' (l.length - (j+1)) _ (by omega) ⟨j+1,by omega,rfl,?_⟩
       simp only [go_sem,simprocAttr,g1,g4,gb4,g5,gb5,gb9,g7,gb7,g8,g13,g14,g15,g19,g20,g21,Int.natCast_succ,a1,a2,List.map_append,List.append_assoc,Nat.add_assoc]
       all_goals trace_state
      | false=>
       rw [q,q2] at a1 a2
       simp only [Bool.and_false,if_false,Bool.or_false,Bool.false_eq_true,List.append_nil] at a1 a2
       (have hWf:=w10 @g1 @g4 @gb4 @g5 @gb5 @gb9 @g7 @gb7 @g8 (ai @g13<|ai @g14<|ai @g15<|ai @g19<|ai @g20<|ai @g21<|ai @gx<|ai @ge<|ai @lit0<|ai @e1<|@q2);repeat' (first|refine zS ?_|refine zI ?_ ?_|exact zF0|refine zD fun hb=>?_|exact zC|refine zT ?_|fail))
       refine hK'' (l.length - (j+1)) _ (by omega) ⟨j+1,by omega,rfl,?_⟩
       simp only [go_sem,simprocAttr,g1,g4,gb4,g5,gb5,gb9,g7,gb7,g8,g13,g14,g15,g19,g20,g21,Int.natCast_succ,a1,a2]
     ·have e1:(xs[k].name.toList==[])=false:=by unfold varB at q;simpa using q
      have q':varB xs[k]=false:=by simpa using q
      rw [q'] at a1 a2
      simp only [Bool.false_and,if_false,Bool.or_false,Bool.false_eq_true,List.append_nil] at a1 a2
      (have hWf:=w10 @g1 @g4 @gb4 @g5 @gb5 @gb9 @g7 @gb7 @g8 (ai @g13<|ai @g14<|ai @g15<|ai @g19<|ai @g20<|ai @g21<|ai @gx<|ai @ge<|ai @lit0<|@e1);repeat' (first|refine zS ?_|refine zI ?_ ?_|exact zF0|refine zD fun hb=>?_|exact zC|refine zT ?_|fail))
      refine hK'' (l.length - (j+1)) _ (by omega) ⟨j+1,by omega,rfl,?_⟩
      simp only [go_sem,simprocAttr,g1,g4,gb4,g5,gb5,gb9,g7,gb7,g8,g13,g14,g15,g19,g20,g21,Int.natCast_succ,a1,a2]
    ·obtain rfl:j=l.length:=by omega
     rw [List.take_length] at gb5 gb9 g8
     cases hh:hitI l xs[k] with
     | true=>
      rw [hh] at g8
      rw [hh,if_pos rfl,List.append_nil] at e3
      (have hWf:=w10 @g1 @g4 @gb4 @g5 @gb5 @gb9 @g7 @gb7 @g8 (ai @g13<|ai @g14<|ai @g15<|ai @g19<|ai @g20<|@g21);repeat' (first|refine zS ?_|refine zI ?_ ?_|exact zF0|refine zD fun hb=>?_|exact zC|refine zT ?_|fail))
      refine hK (xs.length - (k+1)) _ (by omega) ⟨k+1,by omega,rfl,?_⟩
      simp only [go_sem,simprocAttr,g1,g4,gb4,g5,gb5,gb9,g7,gb7,g8,g13,g14,g15,Int.natCast_succ,e3,List.map_append]
     | false=>
      rw [hh] at g8
      rw [hh,if_neg (by simp)] at e3 hle
      (have hWf:=w10 @g1 @g4 @gb4 @g5 @gb5 @gb9 @g7 @gb7 @g8 (ai @g13<|ai @g14<|ai @g15<|ai @g19<|ai @g20<|@g21);repeat' (first|refine zS ?_|refine zI ?_ ?_|exact zF0|refine zD fun hb=>?_|exact zC|refine zT ?_|fail))
      refine hK (xs.length - (k+1)) _ (by omega) ⟨k+1,by omega,rfl,?_⟩
      simp only [go_sem,simprocAttr,g1,g4,gb4,g5,gb5,gb9,g7,gb7,g8,g13,g14,g15,Int.natCast_succ,e3,List.map_append,TyI.own_eq,List.append_assoc,Nat.add_assoc]
      all_goals trace_state
  ·obtain rfl:k=xs.length:=by omega
   rw [List.take_length] at hb5 hb9
   (have hWf:=w9 @h1 @h4 @hb4 @h5 @hb5 @hb9 @h13 @h14 @h15;repeat' (first|refine zS ?_|refine zI ?_ ?_|exact zF0|refine zD fun hb=>?_|exact zC|refine zT ?_|fail))
end
section
def y4(f:Nat->Option Nat):List Int->Nat->Option Nat
 | [],next=>some next
 | k::l,next=>if k=(next:Int) then (f next).bind (y4 f l) else none
def pEnd(ks:List (List Int)):Nat->Nat->Option Nat
 | 0,_=>none
 | n+1,at_=>(ks[at_]?).bind fun l=>y4 (pEnd ks n) l (at_+1)
def yx(ks:List (List Int))(n:Nat)(i:Int)(m:Nat):Option Nat:=if i=(m:Int) then pEnd ks n m else none
def xZ(ks:List (List Int)):Bool:=pEnd ks ks.length 0==some ks.length
theorem ve(ks:List (List Int))(n:Nat)(k:Int)(l:List Int)(m:Nat):y4 (pEnd ks n) (k::l) m=(yx ks n k m).bind (y4 (pEnd ks n) l):=by
 unfold yx;rw [y4];split<;>rfl
theorem xbB(f:Nat->Option Nat)(N:Nat)(hf:∀ m e,f m=some e->m<e/\e<=N):∀ (l:List Int) (m e:Nat),m<=N->y4 f l m=some e->m<=e/\e<=N
 | [],m,e,hm,h=>by
  have h':some m=some e:=h;injection h' with h';omega
 | k::l,m,e,hm,h=>by
  rw [y4] at h
  split at h
  ·cases hc:f m with
   | none=>rw [hc] at h;cases h
   | some e1=>
    rw [hc] at h
    have:=hf m e1 hc;have:=xbB f N hf l e1 e this.2 h;omega
  ·cases h
theorem YB(ks:List (List Int)):∀ (n m e:Nat),pEnd ks n m=some e->m<e/\e<=ks.length
 | 0,m,e,h=>by cases h
 | n+1,m,e,h=>by
  rw [pEnd] at h
  cases hl:ks[m]? with
  | none=>rw [hl] at h;cases h
  | some l=>
   rw [hl] at h
   have hm:m<ks.length:=by
    rcases Nat.lt_or_ge m ks.length with q|q
    ·exact q
    ·rw [List.getElem?_eq_none q] at hl;cases hl
   have:=xbB (pEnd ks n) ks.length (YB ks n) l (m+1) e hm h;omega
theorem U0{ks:List (List Int)}{n:Nat}{i:Int}{m e:Nat}(h:yx ks n i m=some e):i=m/\m<e/\e<=ks.length:=by
 unfold yx at h
 split at h
 ·rename_i hi
  have:=YB ks n m e h;exact ⟨hi,this⟩
 ·cases h
theorem YA(ks:List (List Int))(n m:Nat)(h:m<ks.length):pEnd ks (n+1) m=y4 (pEnd ks n) ks[m] (m+1):=by
 rw [pEnd,List.getElem?_eq_getElem h];rfl
theorem XF(ks:List (List Int))(n m:Nat)(h:ks.length<=m):pEnd ks n m=none:=by
 cases n with
 | zero=>rfl
 | succ n=>rw [pEnd,List.getElem?_eq_none h];rfl
def endZ(o:Option Nat):Int:=match o with|none=>-1|some e=>(e:Int)
theorem Uv(o:Option Nat)(n:Nat):(endZ o==(n:Int))=(o==some n):=by
 cases o with
 | none=>simp [endZ]
 | some e=>
  simp only [endZ]
  by_cases h:e=n
  ·subst h;simp
  ·have:¬ (e:Int)=n:=by omega
   have a:((e:Int)==(n:Int))=false:=beq_eq_false_iff_ne.mpr this;have b:(some e==some n)=false:=beq_eq_false_iff_ne.mpr (by simpa using h)
   rw [a,b]
theorem ZI{α:Type}(l:List α)(j:Nat)(h:j<l.length):l.drop j=l[j]::l.drop (j+1):=List.drop_eq_getElem_cons h
end
section
open Go.RowKit
def intR(_:Hp)(r:List Value)(x:Int):Prop:=r=[.int .i64 x]/\I64 x
abbrev IntS(h:Hp)(v:Value)(xs:List Int):Prop:=SlOf 1 intR h v xs
theorem IntS.mono{h h':Hp}{v:Value}{xs:List Int}(q:IntS h v xs)(l:HLe h h'):IntS h' v xs:=SlOf.le q l fun _ _ _ q=>q
theorem IntS.mem{h:Hp}{v:Value}{xs:List Int}(q:IntS h v xs):∀ x∈xs,I64 x:=by
 obtain ⟨a,c,_,_,_,r⟩:=q;intro x hx;rcases r with rfl|⟨b,off,_,hc⟩
 ·cases hx
 ·obtain ⟨i,hi,rfl⟩:=List.getElem_of_mem hx
  obtain ⟨_,_,_,hr⟩:=hc i hi;exact hr.2
theorem IntS.cell{h:Hp}{a:Option Addr}{n c:Nat}{xs:List Int}(q:IntS h (.slice a n c) xs){i:Nat}(hi:i<xs.length) :
  ∃ b off,a=some ⟨b,off,none⟩/\∀ j (hj:j<xs.length),∀ w:World,Sub h w->w.cell? ⟨b,off+j,none⟩=some (.int .i64 xs[j]):=by
 obtain ⟨a',c',e,_,_,r⟩:=q;injection e with e1 e2 e3
 subst e1;rcases r with rfl|⟨b,off,ea,hc⟩
 ·simp at hi
 ·refine ⟨b,off,ea,fun j hj w hw=>?_⟩
  obtain ⟨r,hr1,hr2,hr3⟩:=hc j hj;rw [hr3.1,Nat.mul_one] at hr2
  exact hr2.cell hw (i:=0) (by simp)
theorem set_selfP{w:World}{b o:Nat}{x:Value}(h:w.cell? ⟨b,o,none⟩=some x)(y:Value):(w.setCell ⟨b,o,none⟩ y).cell? ⟨b,o,none⟩=some y:=by
 unfold World.cell? at h
 split at h
 ·rename_i c e fr he
  have hh:(w.setCell ⟨b,o,none⟩ y).heap[b]?=some (.cells (c.setIfInBounds o y) e fr):=by
   simp only [World.setCell,Array.getElem?_modify,if_true,he,Option.map_some];rw [if_neg (by simp)]
  unfold World.cell?;rw [hh];simp only at h ⊢
  rw [if_neg (by simp)] at h ⊢
  have hlt:o<c.size:=by
   rcases Nat.lt_or_ge o c.size with q|q
   ·exact q
   ·rw [Array.getElem?_eq_none q] at h;cases h
  simp [hlt]
 ·cases h
theorem xcX{w:World}{b o b' o':Nat}(y:Value)(_:True)(h:b'≠b):(w.setCell ⟨b,o,none⟩ y).cell? ⟨b',o',none⟩=w.cell? ⟨b',o',none⟩:=by
 unfold World.cell?;rw [Below.heap_setCell _ _ _ _ (by exact h)]
theorem beq_someP(a b:Nat):((a:Int)==(b:Int))=(some a==some b):=Uv (some a) b
def KidQ(h:Hp)(w:World)(l:List Int)(e:Ending)(w':World):Prop:=∃ v,e=.returned v/\IntS h v l/\Below w.heap.size w w'
def WalkQ(R:Option Nat)(w0:World)(B:Nat)(W:Value)(e:Ending)(w':World):Prop:=
 Below w0.heap.size w0 w'/\((R=none/\e=.returned (.bool false))\/∃ e1:Nat,R=some e1/\e=.returned (.bool true)/\w'.cell? ⟨B,0,none⟩=some (.int .i64 e1)/\w'.frozen? ⟨B,0,none⟩=false/\w'.cell? ⟨B+1,0,none⟩=some W)
def KidR(k c:Nat)(h:Hp)(r:List Value)(l:List Int):Prop:=r.length=k/\∃ u,r[c]?=some u/\IntS h u l
abbrev KidsAt(k c:Nat)(h:Hp)(v:Value)(ks:List (List Int)):Prop:=SlOf k (KidR k c) h v ks
theorem KidsAt.cell{k c:Nat}{h:Hp}{a:Option Addr}{n m:Nat}{ks:List (List Int)}(q:KidsAt k c h (.slice a n m) ks){i:Nat}(hi:i<ks.length) :
  ∃ b off,a=some ⟨b,off,none⟩/\∀ j (hj:j<ks.length),∃ v1:Value,IntS h v1 ks[j]/\∀ w:World,Sub h w->w.cell? ⟨b,off+j*k+c,none⟩=some v1:=by
 obtain ⟨a',c',e,-,-,h0|⟨b,off,ea,hc⟩⟩:=q
 ·subst h0;cases hi
 ·injection e with e1 e2 e3
  refine ⟨b,off,e1.trans ea,fun j hj=>?_⟩
  obtain ⟨r,r1,r2,r4,u,hu,r3⟩:=hc j hj;obtain ⟨hlt,he⟩:=List.getElem?_eq_some_iff.1 hu;exact ⟨u,r3,fun w hw=>by rw [r2.cell hw (i:=c) hlt,he]⟩
theorem node_walk(w0:World)(ks:List (List Int))(hl:ks.length<=1000000000)(hks:∀ k (h:k<ks.length),ks[k].length<=1000000000)(K:FuncId)(cap:Value)(hEnt:∀ vs w,(callFunc K vs).run Tryz.prog w=.ok (.enter K vs) w)(hKid:∀ w,Below w0.heap.size w0 w->∀ m (hm:m<ks.length),Calls Tryz.prog K #[.int .i64 m,cap] w fun e w'=>KidQ (hp w0) w ks[m] e w')(Bn Bk:Nat)(hN:w0.cell? ⟨Bn,0,none⟩=some (.int .i64 ks.length))(hK:w0.cell? ⟨Bk,0,none⟩=some (.func (.func K) #[] #[cap]))
  :
  ∀ (n:Nat) (w:World) (i:Int) (m:Nat) (hi:I64 i) (hb:Below w0.heap.size w0 w) (hn:ks.length - m<=n) (c0:w.cell? ⟨w0.heap.size,0,none⟩=some (.int .i64 m)) (f0:w.frozen? ⟨w0.heap.size,0,none⟩=false) (c1:w.cell? ⟨w0.heap.size+1,0,none⟩=some (.func (.func 145) #[] #[.pointer (some ⟨w0.heap.size,0,none⟩),.pointer (some ⟨Bn,0,none⟩),.pointer (some ⟨Bk,0,none⟩),.pointer (some ⟨w0.heap.size+1,0,none⟩)])),
  Calls Tryz.prog 145 #[.int .i64 i,.pointer (some ⟨w0.heap.size,0,none⟩),.pointer (some ⟨Bn,0,none⟩),.pointer (some ⟨Bk,0,none⟩),.pointer (some ⟨w0.heap.size+1,0,none⟩)] w fun e w'=>WalkQ (yx ks n i m) w0 w0.heap.size (.func (.func 145) #[] #[.pointer (some ⟨w0.heap.size,0,none⟩),.pointer (some ⟨Bn,0,none⟩),.pointer (some ⟨Bk,0,none⟩),.pointer (some ⟨w0.heap.size+1,0,none⟩)]) e w':=by
 have HKID:=Lib.hid hKid;have hBk:Bk<w0.heap.size:=World.block_lt_of_cell? _ _ hK;have hBn:Bn<w0.heap.size:=World.block_lt_of_cell? _ _ hN;clear hKid;have out:∀ (n:Nat) (w:World) (i:Int) (m:Nat) (hi:I64 i) (hb:Below w0.heap.size w0 w) (c0:w.cell? ⟨w0.heap.size,0,none⟩=some (.int .i64 m)) (hbad:¬ (i=(m:Int)/\m<ks.length)),
   Calls Tryz.prog 145 #[.int .i64 i,.pointer (some ⟨w0.heap.size,0,none⟩),.pointer (some ⟨Bn,0,none⟩),.pointer (some ⟨Bk,0,none⟩),.pointer (some ⟨w0.heap.size+1,0,none⟩)] w fun e w'=>WalkQ (yx ks n i m) w0 w0.heap.size (.func (.func 145) #[] #[.pointer (some ⟨w0.heap.size,0,none⟩),.pointer (some ⟨Bn,0,none⟩),.pointer (some ⟨Bk,0,none⟩),.pointer (some ⟨w0.heap.size+1,0,none⟩)]) e w':=by
  intro n w i m hi hb c0 hbad;unfold I64 at hi
  have kN:=wC hb hN;have HR:yx ks n i m=none:=by
   unfold yx;split
   ·rename_i e
    exact XF _ _ _ (by rcases Nat.lt_or_ge m ks.length with q|q;exact absurd ⟨e,q⟩ hbad;exact q)
   ·rfl
  rw [HR];clear HR
  by_cases him:i=m
  ·subst him
   have hge:¬ m<ks.length:=fun q=>hbad ⟨rfl,q⟩
   clear hbad
   go_enter Tryz.func145,Tryz.ntmps145
   go_wp2_with fail
   go_ret
   exact ⟨hb,.inl ⟨rfl,rfl⟩⟩
  ·clear hbad
   go_enter Tryz.func145,Tryz.ntmps145
   go_wp2_with fail
   go_ret
   exact ⟨hb,.inl ⟨rfl,rfl⟩⟩
 have OUT:=Lib.hid out;clear out;intro n
 induction n with
 | zero=>
  intro w i m hi hb hn c0 f0 c1;exact OUT.out 0 w i m hi hb c0 (by omega)
 | succ n ih=>
  intro w i m hi hb hn c0 f0 c1
  by_cases hin:i=(m:Int)/\m<ks.length
  ·obtain ⟨him,hlt⟩:=hin
   subst him;have kN:=wC hb hN;have kK:=wC hb hK;have IH:=Lib.hid ih;have HR:yx ks (n+1) m m=y4 (pEnd ks n) ks[m] (m+1):=by
    unfold yx;rw [if_pos rfl,YA _ _ _ hlt]
   obtain ⟨R,hR⟩:∃ R,yx ks (n+1) m m=R:=⟨_,rfl⟩;rw [hR];rw [hR] at HR
   have HRR:=Lib.hid HR;clear hR HR ih;have hb1:=hb.setCell (p:=⟨w0.heap.size,0,none⟩) (Nat.le_refl _) (.int .i64 ((m:Int)+1));have KK:=Lib.hid (HKID.out _ hb1 m hlt);have HB1:=Lib.hid hb1;have hx:w0.heap.size<w.heap.size:=World.block_lt_of_cell? _ _ c0;have hxx:w0.heap.size+1<w.heap.size:=World.block_lt_of_cell? _ _ c1;clear hb1
   go_enter Tryz.func145,Tryz.ntmps145
   go_wp2_with fail
   refine KK.out.mono ?_
   rintro e w1 ⟨v1,rfl,hv1,hb2⟩
   have d0:w1.cell? ⟨w0.heap.size,0,none⟩=some (.int .i64 ((m+1:Nat):Int)):=by
    rw [(bcell hb2).1 _ _ (by simp<;>omega)];exact set_selfP c0 _
   have d1:w1.frozen? ⟨w0.heap.size,0,none⟩=false:=by
    rw [(bcell hb2).2 _ _ (by simp<;>omega)];exact (World.frozen?_setCell _ _ _ _).trans f0
   have d2:w1.cell? ⟨w0.heap.size+1,0,none⟩=some (.func (.func 145) #[] #[.pointer (some ⟨w0.heap.size,0,none⟩),.pointer (some ⟨Bn,0,none⟩),.pointer (some ⟨Bk,0,none⟩),.pointer (some ⟨w0.heap.size+1,0,none⟩)]):=by
    rw [(bcell hb2).1 _ _ (by simp<;>omega)];exact (xcX _ trivial (by omega)).trans c1
   have hb3:=wl hb2 HB1.out HB1.out.size;clear c0 f0 c1 kN kK;have HV1:=Lib.hid hv1;have hm1:=Lib.hid hv1.mem;obtain ⟨a,c,rfl,hc1,hc2,-⟩:=hv1;unfold maxLen at hc2
   have hll:ks[m].length<=1000000000:=hks m hlt;have HB3:=Lib.hid hb3;have D0:=Lib.hid d0;have D1:=Lib.hid d1;have D2:=Lib.hid d2;clear hb3 d0 d1 d2
   go_wp2_with fail
   go_loopw [8,23] (fun q i wr=>∃ (j cur:Nat),j<=ks[m].length/\i=.int .i64 j/\m<cur/\y4 (pEnd ks n) (ks[m].drop j) cur=R/\wr.cell? ⟨w0.heap.size,0,none⟩=some (.int .i64 cur)/\wr.frozen? ⟨w0.heap.size,0,none⟩=false/\wr.cell? ⟨w0.heap.size+1,0,none⟩=some (.func (.func 145) #[] #[.pointer (some ⟨w0.heap.size,0,none⟩),.pointer (some ⟨Bn,0,none⟩),.pointer (some ⟨Bk,0,none⟩),.pointer (some ⟨w0.heap.size+1,0,none⟩)])/\Below w0.heap.size w0 wr) (fun _ i _=>ks[m].length - (intOf i).toNat)
   case atStart=>exact ⟨0,m+1,by omega,rfl,by omega,by rw [HRR.out];rfl,D0.out,D1.out,D2.out,HB3.out⟩
   case round=>
    obtain ⟨j,cur,hj,rfl,hcur,hp,g0,g1,g2,hbel⟩:=hrel;have HP:=Lib.hid hp;clear hp
    by_cases hjl:j<ks[m].length
    ·obtain ⟨b,off,rfl,hcell⟩:=HV1.out.cell hjl
     have hc:=hcell j hjl wr ((Sub.self w0).below hbel);have hki:=Lib.hid (hm1.out _ (List.getElem_mem hjl));have KI:=Lib.hid (IH.out wr ks[m][j] cur hki.out hbel (by omega) g0 g1 g2)
     have HQ:(yx ks n ks[m][j] cur).bind (y4 (pEnd ks n) (ks[m].drop (j+1)))=R:=by
      rw [<- HP.out,ZI _ j hjl,ve]
     have HQQ:=Lib.hid HQ;clear HQ hcell g0 g1
     go_wp2_with fail
     refine KI.out.mono ?_
     rintro e w2 ⟨hb4,(⟨hn1,rfl⟩|⟨e1,hs1,rfl,g0',g1',g2'⟩)⟩
     ·have HE:R=none:=by rw [<- HQQ.out,hn1];rfl
      have HEE:=Lib.hid HE;clear HE hn1
      go_wp2_with fail
      go_ret
      exact ⟨hb4,.inl ⟨HEE.out,rfl⟩⟩
     ·have hgt:=U0 hs1
      have HE:y4 (pEnd ks n) (ks[m].drop (j+1)) e1=R:=by rw [<- HQQ.out,hs1];rfl
      have HEE:=Lib.hid HE;have G0:=Lib.hid g0';have G1:=Lib.hid g1';have G2:=Lib.hid g2';clear HE hs1 g0' g1' g2'
      go_wp2_with fail
      refine ⟨⟨j+1,e1,by omega,by go_num,by omega,HEE.out,G0.out,G1.out,G2.out,hb4⟩,?_⟩
      simp [intOf];omega
    ·have HE:R=some cur:=by
      rw [<- HP.out,List.drop_eq_nil_of_le (by omega)];rfl
     have HEE:=Lib.hid HE;have G0:=Lib.hid g0;have G1:=Lib.hid g1;have G2:=Lib.hid g2;clear HE g0 g1 g2
     go_wp2_with fail
     go_ret
     exact ⟨hbel,.inr ⟨cur,HEE.out,rfl,G0.out,G1.out,G2.out⟩⟩
  ·exact OUT.out (n+1) w i m hi hb c0 hin
theorem xbu(w:World)(ks:List (List Int))(hl:ks.length<=1000000000)(hks:∀ k (h:k<ks.length),ks[k].length<=1000000000)(K:FuncId)(cap:Value)(hEnt:∀ vs w,(callFunc K vs).run Tryz.prog w=.ok (.enter K vs) w)(hKid:∀ w1,Below w.heap.size w w1->∀ m (hm:m<ks.length),Calls Tryz.prog K #[.int .i64 m,cap] w1 fun e w'=>KidQ (hp w) w1 ks[m] e w') :
  Calls Tryz.prog 95 #[.int .i64 ks.length,.func (.func K) #[] #[cap]] w fun e w'=>e=.returned (.bool (xZ ks))/\Below w.heap.size w w':=by
 obtain ⟨w0,hw0⟩:∃ w0,w0=(w.alloc (.cells #[.int .i64 ks.length] 3)).alloc (.cells #[.func (.func K) #[] #[cap]] 176):=⟨_,rfl⟩;have b0:Below w.heap.size w w0:=by rw [hw0];exact (by repeat (first|with_reducible exact Below.refl _ _|with_reducible assumption|with_reducible refine Below.setCell ?_ ?_ _|with_reducible refine Below.alloc ?_ ?_ _|with_reducible refine Below.drew ?_|(with_reducible apply wl;with_reducible assumption)|exact Nat.le_refl _|omega|(simp<;>omega)))
 have z0:w0.heap.size=w.heap.size+1+1:=by rw [hw0];simp
 have n0:w0.cell? ⟨w.heap.size,0,none⟩=some (.int .i64 ks.length):=by rw [hw0];exact wC ((Below.refl _ _).alloc (Nat.le_refl _) _) (X5 _ _ _)
 have n1:w0.cell? ⟨w.heap.size+1,0,none⟩=some (.func (.func K) #[] #[cap]):=by
  have q:=X5 (w.alloc (.cells #[.int .i64 ks.length] 3)) (.func (.func K) #[] #[cap]) 176;rw [hw0]
  rwa [show (w.alloc (.cells #[.int .i64 ks.length] 3)).heap.size=w.heap.size+1 by simp] at q
 have q0:(w0.alloc (.cells #[.int .i64 0] 3)).heap.size=w0.heap.size+1:=by simp
 have m0:=wC ((Below.refl (w0.alloc (.cells #[.int .i64 0] 3)).heap.size _).alloc (Nat.le_refl _) (.cells #[.func (.func 145) #[] #[.pointer (some ⟨w0.heap.size,0,none⟩),.pointer (some ⟨w.heap.size,0,none⟩),.pointer (some ⟨w.heap.size+1,0,none⟩),.pointer (some ⟨w0.heap.size+1,0,none⟩)]] 230)) (X5 w0 (.int .i64 0) 3);have m1:=X5 (w0.alloc (.cells #[.int .i64 0] 3)) (.func (.func 145) #[] #[.pointer (some ⟨w0.heap.size,0,none⟩),.pointer (some ⟨w.heap.size,0,none⟩),.pointer (some ⟨w.heap.size+1,0,none⟩),.pointer (some ⟨w0.heap.size+1,0,none⟩)]) 230
 rw [q0] at m1
 have KW:=node_walk w0 ks hl hks K cap hEnt (fun w1 hb1 m hm=>(hKid w1 (b0.trans (hb1.mono b0.size)) m hm).mono fun e w2 ⟨u,e1,h1,h2⟩=>⟨u,e1,h1.mono ((Sub.self w).below b0).hle,h2⟩) w.heap.size (w.heap.size+1) n0 n1 ks.length ((w0.alloc (.cells #[.int .i64 0] 3)).alloc (.cells #[.func (.func 145) #[] #[.pointer (some ⟨w0.heap.size,0,none⟩),.pointer (some ⟨w.heap.size,0,none⟩),.pointer (some ⟨w.heap.size+1,0,none⟩),.pointer (some ⟨w0.heap.size+1,0,none⟩)]] 230)) 0 0 (by unfold I64;omega) (((Below.refl _ _).alloc (Nat.le_refl _) _).alloc (by simp) _) (by omega) m0 ((frozen?_alloc_cells _ _ _ _).trans ((frozen?_alloc_cells _ _ _ _).trans (by unfold World.frozen?;rw [Array.getElem?_eq_none (Nat.le_refl _)]))) m1
 have hR:yx ks ks.length 0 0=pEnd ks ks.length 0:=by unfold yx;rw [if_pos (by rfl)]
 rw [hR] at KW
 obtain ⟨R,hR2⟩:∃ R,pEnd ks ks.length 0=R:=⟨_,rfl⟩;have hM:xZ ks=(R==some ks.length):=by
  rw [<- hR2];unfold xZ
  rfl
 rw [hM];rw [hR2] at KW
 rw [hw0] at KW b0 n0
 have N0:=Lib.hid n0;have hBN:w.heap.size<w.heap.size+1+1:=by omega
 rw [show ((w.alloc (.cells #[.int .i64 ks.length] 3)).alloc (.cells #[.func (.func K) #[] #[cap]] 176)).heap.size=w.heap.size+1+1 by simp] at KW
 have HK:=Lib.hid KW;have HB0:=Lib.hid b0;clear KW m0 m1 q0 n0 n1 z0 b0 hM hR hR2 hKid hks;clear hw0;clear w0
 go_enter Tryz.func95,Tryz.ntmps95
 go_wp2_with fail
 refine HK.out.mono ?_
 rintro e w1 ⟨hb1,(⟨hn1,rfl⟩|⟨e1,hs1,rfl,g0,g1,g2⟩)⟩
 ·have HN:=Lib.hid hn1
  clear hn1
  go_wp2_with fail
  go_ret
  exact ⟨yB (by rw [HN.out];rfl),HB0.out.trans (hb1.mono (by simp<;>omega))⟩
 ·have HN:=Lib.hid hs1
  clear hs1;have g3:=(hb1.cell (p:=⟨w.heap.size,0,none⟩) (by simp<;>omega)).trans N0.out
  go_wp2_with fail
  go_ret
  exact ⟨yB (by rw [HN.out];exact beq_someP e1 ks.length),HB0.out.trans (hb1.mono (by simp<;>omega))⟩
end
section
inductive Arb(α:Type) where
 | mk (a:α) (kids:List (Arb α))
namespace Arb
variable {α N:Type}
def a:Arb α->α|.mk a _=>a
def kids:Arb α->List (Arb α)|.mk _ k=>k
theorem eta(t:Arb α):t=.mk t.a t.kids:=by cases t;rfl
theorem a_mk(x:α)(l:List (Arb α)):(Arb.mk x l).a=x:=rfl
theorem kids_mk(x:α)(l:List (Arb α)):(Arb.mk x l).kids=l:=rfl
mutual
def size:Arb α->Nat|.mk _ l=>1+sizeL l
def sizeL:List (Arb α)->Nat|[]=>0|t::l=>size t+sizeL l
end
def idxs:Nat->List (Arb α)->List Int
 | _,[]=>[]
 | b,t::l=>(b:Int)::idxs (b+t.size) l
mutual
def lay(f:α->List Int->N):Nat->Arb α->List N
 | b,.mk a l=>f a (idxs (b+1) l)::layL f (b+1) l
def layL(f:α->List Int->N):Nat->List (Arb α)->List N
 | _,[]=>[]
 | b,t::l=>lay f b t++layL f (b+t.size) l
end
theorem ind{P:Arb α->Prop}(h:∀ a l,(∀ x∈l,P x)->P (.mk a l)):∀ t,P t:=fun t=>
 Arb.rec (motive_1:=P) (motive_2:=fun l=>∀ x∈l,P x) (fun a l ih=>h a l ih) (by simp) (fun t l h1 h2=>by simpa using ⟨h1,h2⟩) t
theorem size_mk(x:α)(l:List (Arb α)):(Arb.mk x l).size=1+sizeL l:=rfl
theorem sizeL_nil:sizeL ([]:List (Arb α))=0:=rfl
theorem sizeL_cons(t:Arb α)(l:List (Arb α)):sizeL (t::l)=t.size+sizeL l:=rfl
theorem size_pos(t:Arb α):0<t.size:=by cases t;rw [size_mk];omega
theorem sizeL_len(l:List (Arb α)):l.length<=sizeL l:=by
 induction l with
 | nil=>exact Nat.le_refl _
 | cons t l ih=>have:=size_pos t;rw [sizeL_cons,List.length_cons];omega
theorem idxs_len(b:Nat)(l:List (Arb α)):(idxs b l).length=l.length:=by
 induction l generalizing b with
 | nil=>rfl
 | cons t l ih=>rw [idxs,List.length_cons,List.length_cons,ih]
theorem idxs_at(b:Nat)(l:List (Arb α))(i:Nat)(h:i<l.length):(idxs b l)[i]'(by rw [idxs_len];exact h)=((b+sizeL (l.take i):Nat):Int):=by
 induction l generalizing b i with
 | nil=>simp at h
 | cons t l ih=>
  cases i with
  | zero=>simp [idxs,sizeL_nil]
  | succ i=>
   have:=ih (b+t.size) i (by simpa using h)
   simp only [idxs,List.getElem_cons_succ,List.take_succ_cons,sizeL_cons];rw [this];congr 1;omega
variable {f:α->List Int->N}
theorem lay_mk(b:Nat)(x:α)(l:List (Arb α)):lay f b (.mk x l)=f x (idxs (b+1) l)::layL f (b+1) l:=rfl
theorem layL_nil(b:Nat):layL f b []=[]:=rfl
theorem layL_cons(b:Nat)(t:Arb α)(l:List (Arb α)):layL f b (t::l)=lay f b t++layL f (b+t.size) l:=rfl
theorem layL_len_of{l:List (Arb α)}(h:∀ x∈l,∀ b,(lay f b x).length=x.size)(b:Nat):(layL f b l).length=sizeL l:=by
 induction l generalizing b with
 | nil=>rfl
 | cons t l ih=>rw [layL_cons,List.length_append,sizeL_cons,h t (by simp),ih (fun x hx=>h x (by simp [hx]))]
theorem lay_len:∀ (t:Arb α) (b:Nat),(lay f b t).length=t.size:=fun t=>by
 induction t using ind with
 | h a l ih=>intro b;rw [lay_mk,List.length_cons,layL_len_of ih,size_mk];omega
def At(f:α->List Int->N)(xs:List N)(m:Nat)(t:Arb α):Prop:=∃ post,xs.drop m=lay f m t++post
def AtL(f:α->List Int->N)(xs:List N)(m:Nat)(l:List (Arb α)):Prop:=∃ post,xs.drop m=layL f m l++post
theorem At.bd{xs:List N}{m:Nat}{t:Arb α}(h:At f xs m t):m+t.size<=xs.length:=by
 obtain ⟨p,h⟩:=h;have:=congrArg List.length h;rw [List.length_drop,List.length_append,lay_len] at this
 have:=size_pos t;omega
theorem At.root{xs:List N}{m:Nat}{x:α}{l:List (Arb α)}(h:At f xs m (.mk x l)):xs[m]?=some (f x (idxs (m+1) l)):=by
 obtain ⟨p,h⟩:=h;rw [lay_mk,List.cons_append] at h
 have:(xs.drop m)[0]?=some (f x (idxs (m+1) l)):=by rw [h];rfl
 rw [List.getElem?_drop,Nat.add_zero] at this
 exact this
theorem At.lt{xs:List N}{m:Nat}{t:Arb α}(h:At f xs m t):m<xs.length:=by
 have:=h.bd;have:=size_pos t;omega
theorem At.kids{xs:List N}{m:Nat}{x:α}{l:List (Arb α)}(h:At f xs m (.mk x l)):AtL f xs (m+1) l:=by
 obtain ⟨p,h⟩:=h;rw [lay_mk,List.cons_append] at h
 refine ⟨p,?_⟩;have:=congrArg (List.drop 1) h;rw [List.drop_drop,List.drop_succ_cons,List.drop_zero] at this
 exact this
theorem AtL.head{xs:List N}{m:Nat}{t:Arb α}{l:List (Arb α)}(h:AtL f xs m (t::l)):At f xs m t:=by
 obtain ⟨p,h⟩:=h;rw [layL_cons,List.append_assoc] at h
 exact ⟨_,h⟩
theorem AtL.tail{xs:List N}{m:Nat}{t:Arb α}{l:List (Arb α)}(h:AtL f xs m (t::l)):AtL f xs (m+t.size) l:=by
 obtain ⟨p,h⟩:=h;rw [layL_cons,List.append_assoc] at h
 refine ⟨p,?_⟩;have:=congrArg (List.drop t.size) h;rw [List.drop_drop,<- lay_len (f:=f) t m,List.drop_left] at this
 rw [lay_len] at this
 exact this
theorem AtL.at{xs:List N}:∀ {l:List (Arb α)} {m:Nat} (i:Nat) (hi:i<l.length),AtL f xs m l->At f xs (m+sizeL (l.take i)) l[i]
 | t::l,m,0,hi,h=>by simpa [sizeL_nil] using h.head
 | t::l,m,i+1,hi,h=>by
  have:=AtL.at i (by simpa using hi) h.tail
  simpa [sizeL_cons,Nat.add_assoc] using this
theorem At.zero(t:Arb α):At f (lay f 0 t) 0 t:=⟨[],by simp⟩
theorem At.whole{xs:List N}{t:Arb α}(h:At f xs 0 t)(hl:t.size=xs.length):xs=lay f 0 t:=by
 obtain ⟨p,h⟩:=h;rw [List.drop_zero] at h
 have h2:=congrArg List.length h;rw [List.length_append,lay_len] at h2
 have:p=[]:=List.eq_nil_of_length_eq_zero (by omega)
 rw [h,this,List.append_nil]
variable {ks:N->List Int} {inf:N->α}
theorem grow_ex(hf:∀ x,f (inf x) (ks x)=x)(xs:List N):∀ (n m e:Nat),pEnd (xs.map ks) n m=some e->∃ t:Arb α,t.size=e - m/\At f xs m t
 | 0,m,e,h=>by cases h
 | n+1,m,e,h=>by
  have hm:m<xs.length:=by
   rcases Nat.lt_or_ge m xs.length with q|q
   ·exact q
   ·rw [XF _ _ _ (by simpa using q)] at h;cases h
  rw [YA _ _ _ (by simpa using hm),List.getElem_map] at h
  have key:∀ (l:List Int) (m e:Nat),m<=xs.length->y4 (pEnd (xs.map ks) n) l m=some e->∃ ts:List (Arb α),sizeL ts=e - m/\AtL f xs m ts/\idxs m ts=l/\m<=e/\e<=xs.length:=by
   intro l
   induction l with
   | nil=>
    intro m e hm h;have h':some m=some e:=h;injection h' with h'
    subst h';exact ⟨[],by simp [sizeL_nil],⟨xs.drop m,by simp [layL_nil]⟩,rfl,Nat.le_refl _,hm⟩
   | cons k l ih=>
    intro m e hm h;rw [y4] at h
    split at h
    ·rename_i hk
     cases hc:pEnd (xs.map ks) n m with
     | none=>rw [hc] at h;cases h
     | some e1=>
      rw [hc] at h
      have hb:=YB _ _ _ _ hc;rw [List.length_map] at hb
      obtain ⟨t,h1,h2⟩:=grow_ex hf xs n m e1 hc;obtain ⟨ts,h3,h4,h5,h6,h7⟩:=ih e1 e hb.2 h;have he:e1=m+t.size:=by omega
      refine ⟨t::ts,by rw [sizeL_cons];omega,?_,by rw [idxs,hk,<- he,h5],by omega,h7⟩
      obtain ⟨p1,q1⟩:=h2;obtain ⟨p2,q2⟩:=h4;refine ⟨p2,?_⟩;have:=congrArg (List.drop t.size) q1;rw [List.drop_drop,<- he,<- lay_len (f:=f) t m,List.drop_left,q2] at this
      rw [layL_cons,List.append_assoc,<- he,this,q1]
    ·cases h
  obtain ⟨ts,h3,h4,h5,h6,h7⟩:=key _ (m+1) e (by omega) h
  refine ⟨.mk (inf xs[m]) ts,by rw [size_mk];omega,?_⟩
  obtain ⟨p,q⟩:=h4;refine ⟨p,?_⟩;rw [lay_mk,List.drop_eq_getElem_cons hm,q,h5,hf];rfl
theorem grow_all(hf:∀ x,f (inf x) (ks x)=x){xs:List N}(h:xZ (xs.map ks)=true):∃ t:Arb α,xs=lay f 0 t:=by
 unfold xZ at h
 have he:pEnd (xs.map ks) (xs.map ks).length 0=some (xs.map ks).length:=by simpa using h
 obtain ⟨t,h1,h2⟩:=grow_ex hf xs _ _ _ he;exact ⟨t,h2.whole (by rw [List.length_map] at h1;omega)⟩
inductive All(P:α->List (Arb α)->Prop):Arb α->Prop where
 | mk {x:α} {l:List (Arb α)}:P x l->(∀ t∈l,All P t)->All P (.mk x l)
theorem All.root{P:α->List (Arb α)->Prop}{x:α}{l:List (Arb α)}(h:All P (.mk x l)):P x l:=by cases h;assumption
theorem All.kid{P:α->List (Arb α)->Prop}{x:α}{l:List (Arb α)}(h:All P (.mk x l)):∀ t∈l,All P t:=by cases h;assumption
theorem all_of{P:α->List (Arb α)->Prop}{xs:List N}:∀ (t:Arb α) (m:Nat),At f xs m t->(∀ (j:Nat) (x:α) (l:List (Arb α)),At f xs j (.mk x l)->P x l)->All P t:=fun t=>by
 induction t using ind with
 | h a l ih=>
  intro m h hp;refine .mk (hp m a l h) fun t ht=>?_
  obtain ⟨i,hi,rfl⟩:=List.getElem_of_mem ht;exact ih _ ht _ (h.kids.at i hi) hp
end Arb
end
end Go.Proofs.YtmnokalddmlogaaGreat
