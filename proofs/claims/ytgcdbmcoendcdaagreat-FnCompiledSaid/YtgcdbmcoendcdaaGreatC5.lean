/- Parts of the proof. -/
import Derived.Test.YtgcdbmcoendcdaaGreatC4
set_option maxRecDepth 100000
set_option maxHeartbeats 8000000
set_option linter.unusedVariables false
set_option linter.unusedSimpArgs false
namespace Go.Proofs.YtgcdbmcoendcdaaGreat
section
open Go.RowKit
def bAt(s:ByteArray)(k:Nat):Int:=((s.data.toList.getD k 0).toNat:Int)
def hasM(s p:ByteArray)(i:Nat):Bool:=decide (i+p.size<=s.size)&&((s.extract i (i+p.size)).toList==p.toList)
theorem Ww{s p:ByteArray}{i:Nat}(h:hasM s p i=true):i+p.size<=s.size:=by
 unfold hasM at h;simp at h;omega
def lpB:ByteArray:=⟨#[40,42]⟩
def rpB:ByteArray:=⟨#[42,41]⟩
theorem uf:lpB.size=2:=by kernel_rfl
theorem vz:rpB.size=2:=by kernel_rfl
def remF(s:ByteArray):Nat->Nat->Nat->Option Nat
 | 0,_,_=>none
 | f+1,i,d=>if s.size<=i then none else if hasM s lpB i=true then remF s f (i+2) (d+1) else if hasM s rpB i=true then (if d=1 then some (i+2) else remF s f (i+2) (d - 1)) else remF s f (i+1) d
def remM(s:ByteArray)(i:Nat):Option Nat:=remF s (s.size+1) i 0
theorem remF_end{s:ByteArray}{f i d:Nat}(h:s.size<=i):remF s f i d=none:=by
 cases f with
 | zero=>rfl
 | succ f=>rw [remF,if_pos h]
theorem remF_open{s:ByteArray}{f i d:Nat}(h:i<s.size)(hl:hasM s lpB i=true):remF s (f+1) i d=remF s f (i+2) (d+1):=by
 rw [remF,if_neg (by omega),if_pos hl]
theorem remF_last{s:ByteArray}{f i:Nat}(h:i<s.size)(hl:hasM s lpB i=false)(hr:hasM s rpB i=true):remF s (f+1) i 1=some (i+2):=by
 rw [remF,if_neg (by omega),if_neg (by simp [hl]),if_pos hr,if_pos rfl]
theorem xb8{s:ByteArray}{f i d:Nat}(h:i<s.size)(hl:hasM s lpB i=false)(hr:hasM s rpB i=true)(hd:d≠1):remF s (f+1) i d=remF s f (i+2) (d - 1):=by
 rw [remF,if_neg (by omega),if_neg (by simp [hl]),if_pos hr,if_neg hd]
theorem remF_pass{s:ByteArray}{f i d:Nat}(h:i<s.size)(hl:hasM s lpB i=false)(hr:hasM s rpB i=false):remF s (f+1) i d=remF s f (i+1) d:=by
 rw [remF,if_neg (by omega),if_neg (by simp [hl]),if_neg (by simp [hr])]
theorem WB(s:ByteArray):∀ (f i d j:Nat),remF s f i d=some j->i+2<=j/\j<=s.size
 | 0,i,d,j,h=>by cases h
 | f+1,i,d,j,h=>by
  rw [remF] at h
  split at h
  .cases h
  .split at h
   .have:=WB s f _ _ j h;omega
   .split at h
    .rename_i hr
     have:=Ww hr;rw [vz] at this
     split at h
     .injection h with h;omega
     .have:=WB s f _ _ j h;omega
    .have:=WB s f _ _ j h;omega
def uY(s:ByteArray):Nat->Nat->Nat
 | 0,k=>k
 | f+1,k=>if k<s.size/\worI (bAt s k)=true then uY s f (k+1) else k
def xM(s:ByteArray)(k:Nat):Nat:=uY s s.size k
theorem Qv{s:ByteArray}{f k:Nat}(h:¬ (k<s.size/\worI (bAt s k)=true)):uY s f k=k:=by
 cases f with
 | zero=>rfl
 | succ f=>rw [uY,if_neg h]
theorem Zq{s:ByteArray}{f k:Nat}(h:k<s.size)(hw:worI (bAt s k)=true):uY s (f+1) k=uY s f (k+1):=by
 rw [uY,if_pos ⟨h,hw⟩]
theorem UD(s:ByteArray):∀ (f k:Nat),k<=s.size->k<=uY s f k/\uY s f k<=s.size
 | 0,k,h=>⟨Nat.le_refl _,h⟩
 | f+1,k,h=>by
  rw [uY];split
  .rename_i q;have:=UD s f (k+1) q.1;omega
  .exact ⟨Nat.le_refl _,h⟩
theorem xaP{s:ByteArray}{k:Nat}(h:k<=s.size):k<=xM s k/\xM s k<=s.size:=UD s _ k h
theorem YA{s:ByteArray}{k:Nat}(h:k<s.size)(hw:worI (bAt s k)=true):k<xM s k:=by
 unfold xM;obtain ⟨f,hf⟩:∃ f,s.size=f+1:=⟨s.size - 1,by omega⟩
 rw [hf,Zq h hw];have:=(UD s f (k+1) h).1;omega
def quoF(s:ByteArray):Nat->Nat->Option Nat
 | 0,_=>none
 | f+1,k=>if k<s.size then (if bAt s k=92 then quoF s f (k+2) else if bAt s k=34 then some k else quoF s f (k+1)) else none
def quoE(s:ByteArray)(k:Nat):Option Nat:=quoF s s.size k
theorem quoF_end{s:ByteArray}{f k:Nat}(h:s.size<=k):quoF s f k=none:=by
 cases f with
 | zero=>rfl
 | succ f=>rw [quoF,if_neg (by omega)]
theorem quoF_esc{s:ByteArray}{f k:Nat}(h:k<s.size)(hb:bAt s k=92):quoF s (f+1) k=quoF s f (k+2):=by
 rw [quoF,if_pos h,if_pos hb]
theorem quoF_hit{s:ByteArray}{f k:Nat}(h:k<s.size)(hb:bAt s k=34):quoF s (f+1) k=some k:=by
 rw [quoF,if_pos h,if_neg (by omega),if_pos hb]
theorem quoF_pass{s:ByteArray}{f k:Nat}(h:k<s.size)(h1:bAt s k≠92)(h2:bAt s k≠34):quoF s (f+1) k=quoF s f (k+1):=by
 rw [quoF,if_pos h,if_neg h1,if_neg h2]
theorem WA(s:ByteArray):∀ (f k j:Nat),quoF s f k=some j->k<=j/\j<s.size
 | 0,k,j,h=>by cases h
 | f+1,k,j,h=>by
  rw [quoF] at h
  split at h
  .split at h
   .have:=WA s f _ j h;omega
   .split at h
    .injection h with h;omega
    .have:=WA s f _ j h;omega
  .cases h
def sign2:List ByteArray:=[⟨#[45,62]⟩,⟨#[60,62]⟩,⟨#[60,61]⟩,⟨#[58,61]⟩,⟨#[58,58]⟩]
def sign1:List ByteArray:=[⟨#[40]⟩,⟨#[41]⟩,⟨#[91]⟩,⟨#[93]⟩,⟨#[44]⟩,⟨#[59]⟩,⟨#[124]⟩,⟨#[61]⟩,⟨#[60]⟩,⟨#[43]⟩,⟨#[45]⟩,⟨#[42]⟩,⟨#[47]⟩,⟨#[37]⟩,⟨#[94]⟩,⟨#[33]⟩,⟨#[95]⟩]
def signs:List ByteArray:=sign2++sign1
def noB:ByteArray:=⟨#[]⟩
def y8(s:ByteArray)(i:Nat):ByteArray:=(signs.find? fun p=>hasM s p i).getD noB
theorem signs_pos:∀ p∈signs,1<=p.size:=by decide +kernel
theorem YI(s:ByteArray)(i:Nat):(y8 s i=noB)\/(1<=(y8 s i).size/\i+(y8 s i).size<=s.size):=by
 unfold y8;cases h:signs.find? fun p=>hasM s p i with
 | none=>exact .inl rfl
 | some p=>
  refine .inr ⟨signs_pos p (List.mem_of_find?_eq_some h),?_⟩;have:=List.find?_some (p:=fun p=>hasM s p i) h
  exact Ww this
def uo(n:Int):Bool:=n==9||n==10||n==13||n==32
def zTok(i:Nat):MTok:=⟨0,0,noB,i⟩
noncomputable def tokM(s:ByteArray)(i:Nat):MTok×Nat×Int:=
 if digI (bAt s i)=true then
  match txtO (s.extract i (xM s i)).data.toList with
  | none=>(zTok i,0,3)
  | some n=>(⟨1,n,noB,i⟩,xM s i - i,0)
 else if (lowI (bAt s i)||uppI (bAt s i))=true then
  if yM (s.extract i (xM s i))=true then (⟨3,0,s.extract i (xM s i),i⟩,xM s i - i,0)
  else if conM (s.extract i (xM s i)).data.toList=true then (⟨4,0,s.extract i (xM s i),i⟩,xM s i - i,0)
  else if inL (s.extract i (xM s i)) z6=true then (⟨6,0,s.extract i (xM s i),i⟩,xM s i - i,0)
  else (⟨0,0,s.extract i (xM s i),i⟩,0,5)
 else if bAt s i=39/\i+1<s.size/\lowI (bAt s (i+1))=true then (⟨5,bAt s (i+1) - 97,noB,i⟩,2,0)
 else if bAt s i=34 then
  match quoE s (i+1) with
  | none=>(zTok i,0,4)
  | some k=>match unqO (s.extract i (k+1)).data.toList with
   | none=>(zTok i,0,4)
   | some t=>(⟨2,0,bs t,i⟩,k+1 - i,0)
 else if y8 s i=noB then (zTok i,0,2)
 else (⟨6,0,y8 s i,i⟩,(y8 s i).size,0)
theorem dig_wor{n:Int}(h:digI n=true):worI n=true:=by unfold worI;simp [h]
theorem let_wor{n:Int}(h:(lowI n||uppI n)=true):worI n=true:=by unfold worI;simp [h]
theorem tokM_bd{s:ByteArray}{i:Nat}(h:i<s.size)(h0:(tokM s i).2.2=0):1<=(tokM s i).2.1/\i+(tokM s i).2.1<=s.size/\(tokM s i).1.at_=i:=by
 have hw:=xaP (s:=s) (k:=i) (by omega)
 unfold tokM at h0 ⊢
 split
 .rename_i hd
  have hp:=YA h (dig_wor hd);rw [if_pos hd] at h0
  split
  .rename_i q;rw [q] at h0;cases h0
  .exact ⟨by simp only;omega,by simp only;omega,rfl⟩
 .rename_i hd
  rw [if_neg hd] at h0
  split
  .rename_i hl
   have hp:=YA h (let_wor hl);rw [if_pos hl] at h0
   split
   .exact ⟨by simp only;omega,by simp only;omega,rfl⟩
   .rename_i q1
    rw [if_neg q1] at h0
    split
    .exact ⟨by simp only;omega,by simp only;omega,rfl⟩
    .rename_i q2
     rw [if_neg q2] at h0
     split
     .exact ⟨by simp only;omega,by simp only;omega,rfl⟩
     .rename_i q3
      rw [if_neg q3] at h0;cases h0
  .rename_i hl
   rw [if_neg hl] at h0
   split
   .rename_i q;exact ⟨by simp only;omega,by simp only;omega,rfl⟩
   .rename_i q
    rw [if_neg q] at h0
    split
    .rename_i q2
     rw [if_pos q2] at h0
     split
     .rename_i q3;rw [q3] at h0;cases h0
     .rename_i k q3
      rw [q3] at h0
      have:=WA s _ _ k q3;simp only at h0 ⊢
      split
      .rename_i q4;rw [q4] at h0;cases h0
      .exact ⟨by simp only;omega,by simp only;omega,rfl⟩
    .rename_i q2
     rw [if_neg q2] at h0
     split
     .rename_i q3;rw [if_pos q3] at h0;cases h0
     .rename_i q3
      rcases YI s i with q4|q4
      .exact absurd q4 q3
      .exact ⟨q4.1,q4.2,rfl⟩
noncomputable def lexF(s:ByteArray):Nat->Nat->List MTok->List MTok×Int×Int
 | 0,_,acc=>(acc,0,0)
 | f+1,i,acc=>if s.size<=i then (acc,0,0)
  else if uo (bAt s i)=true then lexF s f (i+1) acc
  else if hasM s lpB i=true then (match remM s i with|none=>([],6,(i:Int))|some j=>lexF s f j acc)
  else if (tokM s i).2.2=0 then lexF s f (i+(tokM s i).2.1) (acc++[(tokM s i).1])
  else ([],(tokM s i).2.2,(i:Int))
noncomputable def lexM(s:ByteArray):List MTok×Int×Int:=if s.size<=4000 then lexF s s.size 0 [] else ([],1,0)
theorem Ui{s:ByteArray}{f i:Nat}{acc:List MTok}(h:s.size<=i):lexF s f i acc=(acc,0,0):=by
 cases f with
 | zero=>rfl
 | succ f=>rw [lexF,if_pos h]
theorem Zd{s:ByteArray}{f i:Nat}{acc:List MTok}(h:i<s.size)(hb:uo (bAt s i)=true):lexF s (f+1) i acc=lexF s f (i+1) acc:=by
 rw [lexF,if_neg (by omega),if_pos hb]
theorem Uj{s:ByteArray}{f i j:Nat}{acc:List MTok}(h:i<s.size)(hb:uo (bAt s i)=false)(hl:hasM s lpB i=true)(hr:remM s i=some j):lexF s (f+1) i acc=lexF s f j acc:=by
 rw [lexF,if_neg (by omega),if_neg (by simp [hb]),if_pos hl,hr]
theorem Ze{s:ByteArray}{f i:Nat}{acc:List MTok}(h:i<s.size)(hb:uo (bAt s i)=false)(hl:hasM s lpB i=true)(hr:remM s i=none):lexF s (f+1) i acc=(([]:List MTok),(6:Int),(i:Int)):=by
 rw [lexF,if_neg (by omega),if_neg (by simp [hb]),if_pos hl,hr]
theorem Uk{s:ByteArray}{f i:Nat}{acc:List MTok}(h:i<s.size)(hb:uo (bAt s i)=false)(hl:hasM s lpB i=false)(hc:(tokM s i).2.2=0):lexF s (f+1) i acc=lexF s f (i+(tokM s i).2.1) (acc++[(tokM s i).1]):=by
 rw [lexF,if_neg (by omega),if_neg (by simp [hb]),if_neg (by simp [hl]),if_pos hc]
theorem Uh{s:ByteArray}{f i:Nat}{acc:List MTok}(h:i<s.size)(hb:uo (bAt s i)=false)(hl:hasM s lpB i=false)(hc:(tokM s i).2.2≠0):lexF s (f+1) i acc=(([]:List MTok),(tokM s i).2.2,(i:Int)):=by
 rw [lexF,if_neg (by omega),if_neg (by simp [hb]),if_neg (by simp [hl]),if_neg hc]
theorem remM_bd{s:ByteArray}{i j:Nat}(h:remM s i=some j):i+2<=j/\j<=s.size:=WB s _ _ _ _ h
theorem sB{a b:Bool}(h:a=b):D.s (.bool a)=.s (.bool b):=by rw [h]
theorem FCon.ofStr {f:FuncId} {fn:Func} {c:Code} (hf:Tryz.prog.funcs[f]?=some fn) (hname:(fn.name == "runtime.NumGoroutine")=false) (hb:fn.body=some c) (s:ByteArray) (b:Bool) (h:∀ w,Calls Tryz.prog f #[.string s] w fun e w'=>e=.returned (.bool b)/\Below w.heap.size w w'):FT f [.s (.string s)] (fun r _=>r=.s (.bool b)):=by
 refine FCon.ofBelow (Rv:=fun v=>v=.bool b) hf hname hb ?_ rfl ?_
 .rintro _ rfl;exact ⟨rfl,rfl⟩
 .intro w S up vs hl hv
  obtain ⟨v,rfl,h'⟩:=Xf (P:=fun _ d u=>RB S up w d u) hl hv
  have:=Rep.s_inv (show Rep S up w none (.s (.string s)) v from h');subst this;exact (h w).mono fun e w' h=>⟨_,h.1,rfl,h.2⟩
theorem uq(s:ByteArray)(hs:s.size<=maxLen):FT 43 [.s (.string s)] (fun r _=>r=.s (.bool (yM s))):=FCon.ofStr Tryz.func43 rfl rfl s _ fun w=>xa6 w s hs
theorem xz(s:ByteArray)(hs:s.size<=maxLen):FT 47 [.s (.string s)] (fun r _=>r=.s (.bool (yM s))):=FCon.ofStr Tryz.func47 rfl rfl s _ fun w=>xbd w s hs
theorem xv(n lo hi:Int):FT 65 [.s (.int .i64 n),.s (.int .i64 lo),.s (.int .i64 hi)] (fun r _=>r=.s (.bool (decide (lo<=n)&&decide (n<=hi)))):=by
 refine FI PM Tryz.func65 Tryz.ntmps65 [] rfl rfl ?_
 (have hWf:=f0;repeat' (first|refine zS ?_|refine zI ?_ ?_|exact zF0|refine zD fun hb=>?_|exact zC|refine zT ?_|fail))
 all_goals exact sB (by simp_all)
theorem ud(s:ByteArray)(hs:s.size<=maxLen):FT 179 [.s (.string s)] (fun r _=>r=.s (.bool (conM s.data.toList))):=FCon.ofStr Tryz.func179 rfl rfl s _ fun w=>(xbQ w s hs).mono fun e w' ⟨q1,q2⟩=>⟨q1,q2 ▸ Below.refl _ _⟩
theorem yX(s:ByteArray)(hs:s.size<=maxLen):FT 110 [.s (.string s)] (fun r _=>r=.s (.bool (conM s.data.toList))):=FCon.ofStr Tryz.func110 rfl rfl s _ fun w=>(xcm w s hs).mono fun e w' ⟨q1,q2⟩=>⟨q1,q2 ▸ Below.refl _ _⟩
theorem lit0:(⟨#[]⟩:ByteArray).toList=[]:=by kernel_rfl
end
section
def fidx{α:Type}(p:α->Bool):List α->Int
 | []=>-1
 | x::l=>if p x=true then 0 else if fidx p l<0 then -1 else fidx p l+1
theorem fidx_ge{α:Type}(p:α->Bool):∀ (l:List α),-1<=fidx p l
 | []=>by simp [fidx]
 | x::l=>by
  have:=fidx_ge p l;rw [fidx];split<;>(try split)<;>omega
theorem XR{α:Type}(p:α->Bool):∀ (l:List α) (k:Nat) (h:k<l.length),(∀ x∈l.take k,p x=false)->p l[k]=true->fidx p l=k
 | x::l,0,_,_,hp=>by
  have hp:p x=true:=hp;rw [fidx,if_pos hp];rfl
 | x::l,k+1,h,hn,hp=>by
  rw [fidx,if_neg (by rw [hn x (by simp)];simp),XR p l k (by simpa using h) (fun y hy=>hn y (by simp [hy])) (by simpa using hp)]
  rw [if_neg (by omega)];omega
theorem XS{α:Type}(p:α->Bool):∀ (l:List α),(∀ x∈l,p x=false)->fidx p l = -1
 | [],_=>rfl
 | x::l,h=>by rw [fidx,if_neg (by rw [h x (by simp)];simp),XS p l (fun y hy=>h y (by simp [hy]))];rfl
theorem vZ{α:Type}(p:α->Bool):∀ (l:List α),decide (fidx p l ≥ 0)=l.any p
 | []=>rfl
 | x::l=>by
  rw [fidx,List.any_cons,<- vZ p l]
  by_cases h:p x=true
  .rw [if_pos h,h];rfl
  .rw [if_neg h]
   have:p x=false:=by simpa using h
   rw [this,Bool.false_or];have:=fidx_ge p l
   by_cases q:fidx p l<0
   .rw [if_pos q,decide_eq_false (by omega),decide_eq_false (by omega)]
   .rw [if_neg q,decide_eq_true (by omega),decide_eq_true (by omega)]
theorem WG{α:Type}{p:α->Bool}{xs:List α}{k:Nat}(h:k<xs.length)(hno:∀ x∈xs.take k,p x=false)(hk:p xs[k]=false):∀ x∈xs.take (k+1),p x=false:=by
 intro x hx;rw [List.take_succ_eq_append_getElem h] at hx
 rcases List.mem_append.1 hx with hx|hx
 .exact hno x hx
 .simp at hx;rw [hx];exact hk
end
section
open Go.RowKit
def stE(p:ByteArray):List D:=[.s (.string p)]
theorem xH(p:ByteArray):stE p=[.s (.string p)]:=rfl
theorem xaW(xs:List ByteArray)(v:ByteArray):FT 182 [.sl 1 (xs.map stE),.s (.string v)] (fun r _=>r=.s (.int .i64 (zu v xs))):=by
 refine FI PM Tryz.func182 Tryz.ntmps182 [] rfl rfl ?_;refine YL 0 rfl trivial fun hlen=>?_
 simp only [List.length_map] at hlen
 (have hWf:=f0;repeat' (first|refine zS ?_|refine zI ?_ ?_|exact zF0|refine zD fun hb=>?_|exact zC|refine zT ?_|fail))
 refine xn (fun n σ=>∃ k:Nat,k<=xs.length/\n=xs.length - k/\σ.t 0=.sl 1 (xs.map stE)/\σ.t 1=.s (.string v)/\σ.t 7=.s (.int .i64 xs.length)/\σ.t 8=.s (.int .i64 k)/\∀ j,j<k->xs[j]?≠some v) xs.length ⟨0,by omega,by omega,?_⟩ ?_
 .simp only [go_sem,simprocAttr,Int.natCast_zero]
  all_goals simp
 .rintro n σ ⟨k,hk,rfl,h0,h1,h7,h8,hno⟩ K' hK
  by_cases hlt:k<xs.length
  .have hx:=xi stE xs k hlt
   have he:=xH xs[k]
   by_cases hp:v=xs[k]
   .have hp':=zN hp
    have hv:=Uf hlt hno (by rw [List.getElem?_eq_getElem hlt,<- hp])
    (have hWf:=w7 @h0 @h1 @h7 @h8 @hx @he @hp';repeat' (first|refine zS ?_|refine zI ?_ ?_|exact zF0|refine zD fun hb=>?_|exact zC|refine zT ?_|fail))
    exact xN hv.symm
   .have hp':=zb hp
    (have hWf:=w7 @h0 @h1 @h7 @h8 @hx @he @hp';repeat' (first|refine zS ?_|refine zI ?_ ?_|exact zF0|refine zD fun hb=>?_|exact zC|refine zT ?_|fail))
    refine hK (xs.length - (k+1)) _ (by omega) ⟨k+1,by omega,rfl,?_⟩
    simp only [go_sem,simprocAttr,h0,h1,h7,Int.natCast_succ];intro j hj;rcases Nat.lt_or_eq_of_le (Nat.le_of_lt_succ hj) with q|q
    .exact hno j q
    .subst q;rw [List.getElem?_eq_getElem hlt];exact fun e=>hp (Option.some.inj e).symm
  .obtain rfl:k=xs.length:=by omega
   (have hWf:=w4 @h0 @h1 @h7 @h8;repeat' (first|refine zS ?_|refine zI ?_ ?_|exact zF0|refine zD fun hb=>?_|exact zC|refine zT ?_|fail))
   exact xN (Y9 hno).symm
theorem wL(xs:List ByteArray)(v:ByteArray):FT 103 [.sl 1 (xs.map stE),.s (.string v)] (fun r _=>r=.s (.bool (inL v xs))):=by
 refine FI PM Tryz.func103 Tryz.ntmps103 [] rfl rfl ?_
 (have hWf:=f0;repeat' (first|refine zS ?_|refine zI ?_ ?_|refine zK (xaW xs v) ?_|exact zF0|refine zD fun hb=>?_|exact zC|refine zT ?_|fail))
 exact sB (Qd v xs)
theorem xd(xs:List ByteArray):xU (xs.map stE)=xs.map stE:=yh (fun _=>rfl) xs
theorem toL_inj{a b:ByteArray}(h:a.toList=b.toList):a=b:=by
 rw [ByteArray.toList_eq,ByteArray.toList_eq] at h
 cases a;cases b
 simpa using h
theorem zP{α:Type}{p:α->Bool}{l:List α}{k:Nat}(h:k<l.length)(hp:p l[k]=false):l.all p=false:=by
 rw [List.all_eq_false];exact ⟨l[k],List.getElem_mem h,by rw [hp];simp⟩
theorem yp{α:Type}{p:α->Bool}{l:List α}(h:∀ x∈l.take l.length,p x=true):l.all p=true:=List.all_eq_true.2 (by simpa using h)
theorem xZ{α:Type}{p:α->Prop}{l:List α}{k:Nat}(h:k<l.length)(h1:∀ x∈l.take k,p x)(h2:p l[k]):∀ x∈l.take (k+1),p x:=by
 intro x hx;rw [List.take_succ_eq_append_getElem h] at hx
 rcases List.mem_append.1 hx with hx|hx
 .exact h1 x hx
 .simp at hx;rw [hx];exact h2
def primL:List (List UInt8):=[[43],[45],[42],[47],[37],[94],[61],[60,62],[60],[60,61]]
def uF(s:ByteArray):Bool:=primL.any fun l=>s.toList==l
def y6:List ByteArray:=primL.map fun l=>⟨l.toArray⟩
theorem primM_in(s:ByteArray):inL s y6=uF s:=by
 rw [Bool.eq_iff_iff,XU];unfold uF y6;simp only [List.mem_map,List.any_eq_true,beq_iff_eq]
 constructor
 .rintro ⟨l,hl,rfl⟩
  exact ⟨l,hl,by rw [ByteArray.toList_eq]⟩
 .rintro ⟨l,hl,e⟩
  exact ⟨l,hl,toL_inj (by rw [ByteArray.toList_eq,e])⟩
theorem yl:FT 150 [] (fun r _=>r=.osl 9 1 (y6.map stE)):=by
 refine FI PM Tryz.func150 Tryz.ntmps150 [] rfl rfl ?_
 (have hWf:=f0;repeat' (first|refine zS ?_|refine zI ?_ ?_|exact zF0|refine zD fun hb=>?_|exact zC|refine zT ?_|fail))
 rfl
theorem yP(s:ByteArray):FT 103 [.sl 1 (y6.map stE),.s (.string s)] (fun r _=>r=.s (.bool (uF s))):=by
 rw [<- primM_in];exact wL y6 s
theorem vi(s:ByteArray):FT 112 [.s (.string s)] (fun r _=>r=.s (.bool (uF s))):=by
 have hpm:uF s=y6.any fun x=>s.toList==x.toList:=by
  unfold uF y6;rw [List.any_map]
  congr 1
  funext l
  show _=(s.toList==(⟨l.toArray⟩:ByteArray).toList);rw [ByteArray.toList_eq (bs:=⟨l.toArray⟩)]
 rw [hpm];have hpl:y6.length=10:=rfl;refine FI PM Tryz.func112 Tryz.ntmps112 [] rfl rfl ?_
 (have hWf:=f0;repeat' (first|refine zS ?_|refine zI ?_ ?_|exact zF0|refine zD fun hb=>?_|exact zC|refine zT ?_|fail))
 refine xn (fun n σ=>∃ k:Nat,k<=y6.length/\n=y6.length - k/\σ.t 0=.s (.string s)/\σ.t 5=.bs 5 1 y6.length/\σ.b 5=some (.arr 9 1 (y6.map stE))/\σ.t 6=.s (.int .i64 y6.length)/\σ.t 7=.s (.int .i64 k)/\∀ x∈y6.take k,(s.toList==x.toList)=false) y6.length ⟨0,by omega,by omega,?_⟩ ?_
 .simp only [go_sem,simprocAttr]
  exact ⟨by rw [hpl],rfl,by rw [hpl];rfl⟩
 .rintro n σ ⟨k,hk,rfl,h0,h5,hb5,h6,h7,hno⟩ K' hK
  by_cases hlt:k<y6.length
  .have hx:=xi stE y6 k hlt
   have he:=xH y6[k];cases hq:(s.toList==y6[k].toList) with
   | true=>
    (have hWf:=w8 @h0 @h5 @hb5 @h6 @h7 @hx @he @hq;repeat' (first|refine zS ?_|refine zI ?_ ?_|exact zF0|refine zD fun hb=>?_|exact zC|refine zT ?_|fail))
    exact sB (List.any_eq_true.2 ⟨y6[k],List.getElem_mem hlt,hq⟩).symm
   | false=>
    (have hWf:=w8 @h0 @h5 @hb5 @h6 @h7 @hx @he @hq;repeat' (first|refine zS ?_|refine zI ?_ ?_|exact zF0|refine zD fun hb=>?_|exact zC|refine zT ?_|fail))
    refine hK (y6.length - (k+1)) _ (by omega) ⟨k+1,by omega,rfl,?_⟩
    simp only [go_sem,simprocAttr,h0,h5,hb5,h6,Int.natCast_succ];exact xZ hlt hno hq
  .obtain rfl:k=y6.length:=by omega
   (have hWf:=w5 @h0 @h5 @hb5 @h6 @h7;repeat' (first|refine zS ?_|refine zI ?_ ?_|exact zF0|refine zD fun hb=>?_|exact zC|refine zT ?_|fail))
   exact sB (List.any_eq_false.2 (fun x hx=>by have:=hno x (by simpa using hx);rw [this];simp)).symm
theorem lit3:(⟨#[114,101,102]⟩:ByteArray).toList=[114,101,102]:=by kernel_rfl
theorem lit2:(⟨#[45,62]⟩:ByteArray).toList=[45,62]:=by kernel_rfl
theorem lit1:(⟨#[42]⟩:ByteArray).toList=[42]:=by kernel_rfl
theorem c_tyName(x:TyI)(hx:x.ok)(h0:0<=x.ar)(h1:x.ar<=2)(h2:x.v=0)(h3:x.name.toList.isEmpty=false):FT 256 [.ag x.enc] (fun r _=>r=.s (.bool (yU x))):=by
 refine FI PM Tryz.func256 Tryz.ntmps256 [] rfl rfl ?_
 (have hWf:=w4 @TyI.enc_eq @lit1 @lit2 @lit3;repeat' (first|refine zS ?_|refine zI ?_ ?_|((with_reducible apply xc);refine zG (uq _ hx.2.1) ?_)|((with_reducible apply xj);refine xg (uq _ hx.2.1) ?_)|exact zF0|refine zD fun hb=>?_|exact zC|refine zT ?_|fail))
 all_goals exact sB (by unfold yU;simp_all)
theorem VZ(x:TyI)(hx:x.ok):FT 184 [.ag x.enc] (fun r _=>r=.s (.bool (yU x))):=by
 refine FI PM Tryz.func184 Tryz.ntmps184 [] rfl rfl ?_
 (have hWf:=w5 @TyI.enc_eq @lit0 @lit1 @lit2 @lit3;repeat' (first|refine zS ?_|refine zI ?_ ?_|((with_reducible apply xc);refine zG (xz _ hx.2.1) ?_)|((with_reducible apply xj);refine xg (xz _ hx.2.1) ?_)|exact zF0|refine zD fun hb=>?_|exact zC|refine zT ?_|fail))
 all_goals exact sB (by unfold yU;simp_all;try omega)
theorem decLe{a b:Nat}:decide ((a:Int)<=(b:Int))=decide (a<=b):=by rw [Bool.eq_iff_iff];simp
theorem decLe200{a:Nat}:decide ((a:Int)<=200)=decide (a<=200):=decLe (b:=200)
theorem QB{l:List UInt8}(h:l.isEmpty=false):(l==[])=false:=by cases l<;>simp_all
theorem c_tyOk(xs:List TyI)(ho:∀ x∈xs,x.ok)(hl:xs.length<=1048576):FT 235 [.sl 3 (xs.map TyI.enc)] (fun r _=>r=.s (.bool (wD xs))):=by
 refine FI PM Tryz.func235 Tryz.ntmps235 [] rfl rfl ?_
 (have hWf:=f0;repeat' (first|refine zS ?_|refine zI ?_ ?_|exact zF0|refine zD fun hb=>?_|exact zC|refine zT ?_|fail))
 refine xn (fun n σ=>∃ k m:Nat,k<=xs.length/\n=xs.length - k/\σ.t 3=.s (.int .i64 m)/\σ.t 6=.sl 3 (xs.map TyI.enc)/\σ.t 7=.s (.int .i64 xs.length)/\σ.t 8=.s (.int .i64 k)/\m<=1+2*k/\uG xs k m=wD xs) xs.length ⟨0,1,by omega,by omega,?_⟩ ?_
 .simp only [go_sem,simprocAttr,Int.natCast_zero,Int.natCast_one,xa9]
 .rintro n σ ⟨k,m,hk,rfl,h3,h6,h7,h8,hm,hr⟩ K' hK
  by_cases hlt:k<xs.length
  .have hx:=xi TyI.enc xs k hlt
   have he:=TyI.enc_eq xs[k];have hox:=ho _ (List.getElem_mem hlt);rcases Nat.eq_zero_or_pos m with rfl|hm0
   ·(have hWf:=w7 @h3 @h6 @h7 @h8 @hx @he @Int.natCast_zero;repeat' (first|refine zS ?_|refine zI ?_ ?_|exact zF0|refine zD fun hb=>?_|exact zC|refine zT ?_|fail))
    exact sB (by rw [<- hr,xca xs k hlt])
   .obtain ⟨m,rfl⟩:∃ j,m=j+1:=⟨m - 1,by omega⟩
    have hm1:(((m+1:Nat):Int)==0)=false:=by simp;omega
    have hbad:yU xs[k]=false->false=wD xs:=fun h=>by rw [<- hr,restM_bad xs k _ hlt h]
    have hgood:yU xs[k]=true->uG xs (k+1) (m+xs[k].ar.toNat)=wD xs:=fun h=>by rw [<- hr,xb9 xs k m hlt h]
    clear hr
    by_cases hn:xs[k].name.toList.isEmpty
    .have hI:yU xs[k]=(decide (0<=xs[k].v)&&decide (xs[k].v<=9999)&&(xs[k].ar==0)):=by unfold yU;rw [if_pos hn]
     have hn':xs[k].name.toList=[]:=by simpa using hn
     (have hWf:=w9 @h3 @h6 @h7 @h8 @hx @he @hm1 @lit0 @hn';repeat' (first|refine zS ?_|refine zI ?_ ?_|refine zK (xv xs[k].v 0 9999) ?_|exact zF0|refine zD fun hb=>?_|exact zC|refine zT ?_|fail))
     .exact sB (hbad (by rw [hI];simp at hb ⊢;omega))
     .have hit:yU xs[k]=true:=by rw [hI];simp at hb ⊢;omega
      have ha:xs[k].ar=0:=by rw [hI] at hit;simp at hit;omega
      refine hK (xs.length - (k+1)) _ (by omega) ⟨k+1,m,by omega,rfl,?_⟩
      simp only [go_sem,simprocAttr,h3,h6,h7,h8,Int.natCast_succ];exact ⟨xN (by omega),by omega,by simpa [ha] using hgood hit⟩
    .have hn':xs[k].name.toList.isEmpty=false:=by simpa using hn
     have hn2:=QB hn'
     by_cases hv:xs[k].v=0
     .have hv':(xs[k].v != 0)=false:=by simp [hv]
      by_cases ha:0<=xs[k].ar/\xs[k].ar<=2
      .have ha1:decide (0<=xs[k].ar)=true:=decide_eq_true ha.1
       have ha2:decide (xs[k].ar<=2)=true:=decide_eq_true ha.2
       (have hWf:=w10 @h3 @h6 @h7 @h8 @hx @he @hm1 @lit0 @hn2 (ai @hv'<|ai @ha1<|@ha2);repeat' (first|refine zS ?_|refine zI ?_ ?_|refine zK (xv xs[k].ar 0 2) ?_|refine zK (c_tyName xs[k] hox ha.1 ha.2 hv hn') ?_|exact zF0|refine zD fun hb=>?_|exact zC|refine zT ?_|fail))
       .exact sB (hbad (by simpa using hb))
       .refine hK (xs.length - (k+1)) _ (by omega) ⟨k+1,m+xs[k].ar.toNat,by omega,rfl,?_⟩
        simp only [go_sem,simprocAttr,h3,h6,h7,h8,Int.natCast_succ];exact ⟨xN (by push_cast;omega),by omega,hgood (by simpa using hb)⟩
      .have ha':(decide (0<=xs[k].ar)&&decide (xs[k].ar<=2))=false:=by simp;omega
       (have hWf:=w10 @h3 @h6 @h7 @h8 @hx @he @hm1 @lit0 @hn2 (ai @hv'<|@ha');repeat' (first|refine zS ?_|refine zI ?_ ?_|refine zK (xv xs[k].ar 0 2) ?_|exact zF0|refine zD fun hb=>?_|exact zC|refine zT ?_|fail))
       all_goals exact sB (hbad (by cases hI:yU xs[k] with|false=>rfl|true=>exact absurd (xah hI) ha))
     .have hv':(xs[k].v != 0)=true:=by simp [hv]
      (have hWf:=w10 @h3 @h6 @h7 @h8 @hx @he @hm1 @lit0 @hn2 @hv';repeat' (first|refine zS ?_|refine zI ?_ ?_|refine zK (xv xs[k].ar 0 2) ?_|exact zF0|refine zD fun hb=>?_|exact zC|refine zT ?_|fail))
      all_goals exact sB (hbad (by unfold yU;simp [hn',hv]))
  .obtain rfl:k=xs.length:=by omega
   (have hWf:=w4 @h3 @h6 @h7 @h8;repeat' (first|refine zS ?_|refine zI ?_ ?_|exact zF0|refine zD fun hb=>?_|exact zC|refine zT ?_|fail))
   refine sB ?_;rw [<- hr,restM_end xs _ m rfl,Bool.eq_iff_iff,beq_iff_eq,decide_eq_true_eq];omega
theorem zo(xs:List TyI)(ho:∀ x∈xs,x.ok)(hl:xs.length<=1048576):FT 180 [.ag [.sl 3 (xs.map TyI.enc)]] (fun r _=>r=.s (.bool (uX xs))):=by
 refine FI PM Tryz.func180 Tryz.ntmps180 [] rfl rfl ?_
 (have hWf:=f0;repeat' (first|refine zS ?_|refine zI ?_ ?_|refine zK (c_tyOk xs ho hl) ?_|exact zF0|refine zD fun hb=>?_|exact zC|refine zT ?_|fail))
 all_goals exact sB (by unfold uX;rw [decLe200])
theorem xai{xs:List TyI}(h:xs.all yU=true):∀ x∈xs,0<=x.ar/\x.ar<=2:=fun x hx=>xah (List.all_eq_true.1 h x hx)
theorem W4:∀ (n:Nat) (xs:List TyI) (hit:∀ x∈xs,0<=x.ar/\x.ar<=2) (hl:xs.length<=1048576) (k:Nat),xs.length - k<=n->FT 185 [.ag [.sl 3 (xs.map TyI.enc)],.s (.int .i64 k)] (fun r _=>r=.s (.int .i64 (endM xs k)))
 | n,xs,hit,hl,k,hn=>by
  by_cases hk:k<xs.length
  .have hx:=xi TyI.enc xs k hk
   have he:=TyI.enc_eq xs[k];have hxi:=hit _ (List.getElem_mem hk);have hb0:decide ((k:Int)<0)=false:=by simp
   have hb1:decide ((k:Int) ≥ xs.length)=false:=by simp;omega
   obtain ⟨n,rfl⟩:∃ j,n=j+1:=⟨n - 1,by omega⟩
   have ih:=W4 n xs hit hl;refine FI PM Tryz.func185 Tryz.ntmps185 [] rfl rfl ?_
   (have hWf:=w2 @hb0 @hb1;repeat' (first|refine zS ?_|refine zI ?_ ?_|exact zF0|refine zD fun hb=>?_|exact zC|refine zT ?_|fail))
   refine xn (fun n' σ=>∃ i:Nat,(i:Int)<=xs[k].ar/\n'=xs[k].ar.toNat - i/\σ.t 1=.s (.int .i64 k)/\σ.t 2=.bx 2 0/\σ.b 2=some (.box [.sl 3 (xs.map TyI.enc)])/\σ.t 5=.s (.int .i64 (zt xs (k+1) i))/\σ.t 6=.s (.int .i64 i)) xs[k].ar.toNat ⟨0,by omega,by omega,?_⟩ ?_
   .simp only [go_sem,simprocAttr,Int.natCast_zero,UY,Int.natCast_succ]
   .rintro n' σ ⟨i,hi,rfl,h1,h2,h9,h5,h6⟩ K' hK
    have hbd:=endsM_bd xs (k+1) i (by omega)
    by_cases hlt:(i:Int)<xs[k].ar
    .rcases hbd with hneg|⟨m,hm,hm1,hm2⟩
     .rw [hneg] at h5
      (have hWf:=w7 @h1 @h2 @h9 @h5 @h6 @hx @he;repeat' (first|refine zS ?_|refine zI ?_ ?_|exact zF0|refine zD fun hb=>?_|exact zC|refine zT ?_|fail))
      exact xN (by rw [V8 xs k hk,endsM_neg xs (k+1) i (by omega) _ (by omega)])
     .rw [hm] at h5
      have hsc:=xbD xs (k+1) i m hm
      (have hWf:=w7 @h1 @h2 @h9 @h5 @h6 @hx @he;repeat' (first|refine zS ?_|refine zI ?_ ?_|((with_reducible apply xc);refine zG (ih m (by omega)) ?_)|refine zU (ih m (by omega)) ?_|exact zF0|refine zD fun hb=>?_|exact zC|refine zT ?_|fail))
      refine hK (xs[k].ar.toNat - (i+1)) _ (by omega) ⟨i+1,by omega,rfl,?_⟩
      simp only [go_sem,simprocAttr,h1,h2,h9,h5,h6,Int.natCast_succ,hsc]
    ·(have hWf:=w7 @h1 @h2 @h9 @h5 @h6 @hx @he;repeat' (first|refine zS ?_|refine zI ?_ ?_|exact zF0|refine zD fun hb=>?_|exact zC|refine zT ?_|fail))
     exact xN (by rw [V8 xs k hk];congr 1;omega)
  .refine FI PM Tryz.func185 Tryz.ntmps185 [] rfl rfl ?_
   (have hWf:=f0;repeat' (first|refine zS ?_|refine zI ?_ ?_|exact zF0|refine zD fun hb=>?_|exact zC|refine zT ?_|fail))
   exact xN (endM_end xs k (by omega)).symm
theorem all_false{xs:List TyI}{k:Nat}(h:k<xs.length)(hb:yU xs[k]=false):uX xs=false:=by
 unfold uX wD;have:xs.all yU=false:=List.all_eq_false.2 ⟨xs[k],List.getElem_mem h,by simp [hb]⟩
 rw [this];simp
theorem QA{xs:List TyI}{k:Nat}(h:k<xs.length)(ha:(xs.take k).all yU=true)(hb:yU xs[k]=true):(xs.take (k+1)).all yU=true:=by
 rw [List.take_succ_eq_append_getElem h,List.all_append,ha,List.all_cons,hb];rfl
theorem UV(xs:List TyI)(ho:∀ x∈xs,x.ok)(hl:xs.length<=1048576):FT 111 [.ag [.sl 3 (xs.map TyI.enc)]] (fun r _=>r=.s (.bool (uX xs))):=by
 by_cases h2:xs.length<=200
 .have h2':uX xs=wD xs:=by unfold uX;rw [decide_eq_true h2];rfl
  refine FI PM Tryz.func111 Tryz.ntmps111 [(9,5,[],[],(lin [] [0,1,2,3,4]))] rfl rfl ?_
  (have hWf:=f0;repeat' (first|refine zS ?_|refine zI ?_ ?_|exact zF0|refine zD fun hb=>?_|exact zC|refine zT ?_|fail))
  refine xn (fun n σ=>∃ k:Nat,k<=xs.length/\n=xs.length - k/\σ.t 1=.bx 1 0/\σ.b 1=some (.box [.sl 3 (xs.map TyI.enc)])/\σ.t 10=.sl 3 (xs.map TyI.enc)/\σ.t 11=.s (.int .i64 xs.length)/\σ.t 12=.s (.int .i64 k)/\(xs.take k).all yU=true) xs.length ⟨0,by omega,by omega,?_⟩ ?_
  .simp only [go_sem,simprocAttr,Int.natCast_zero,List.take_zero,List.all_nil]
  .rintro n σ ⟨k,hk,rfl,h1,h9,h10,h11,h12,ha⟩ K' hK
   by_cases hlt:k<xs.length
   .have hx:=xi TyI.enc xs k hlt
    have he:=TyI.enc_eq xs[k]
    (have hWf:=w7 @h1 @h9 @h10 @h11 @h12 @hx @he;repeat' (first|refine zS ?_|refine zI ?_ ?_|((with_reducible apply xc);refine zG (VZ xs[k] (ho _ (List.getElem_mem hlt))) ?_)|((with_reducible apply xj);refine xg (VZ xs[k] (ho _ (List.getElem_mem hlt))) ?_)|exact zF0|refine zD fun hb=>?_|exact zC|refine zT ?_|fail))
    .exact sB (all_false hlt hb).symm
    .refine hK (xs.length - (k+1)) _ (by omega) ⟨k+1,by omega,rfl,?_⟩
     simp only [go_sem,simprocAttr,h1,h9,h10,h11,h12,Int.natCast_succ];exact QA hlt ha hb
   .obtain rfl:k=xs.length:=by omega
    rw [List.take_length] at ha
    (have hWf:=w5 @h1 @h9 @h10 @h11 @h12;repeat' (first|refine zS ?_|refine zI ?_ ?_|((with_reducible apply xc);refine zG (W4 xs.length xs (xai ha) hl 0 (by omega)) ?_)|refine zU (W4 xs.length xs (xai ha) hl 0 (by omega)) ?_|exact zF0|refine zD fun hb=>?_|exact zC|refine zT ?_|fail))
    refine sB ?_;rw [h2',wD,ha,Bool.true_and,Bool.eq_iff_iff]
    simp
 .refine FI PM Tryz.func111 Tryz.ntmps111 [(9,5,[],[],(lin [] [0,1,2,3,4]))] rfl rfl ?_
  (have hWf:=f0;repeat' (first|refine zS ?_|refine zI ?_ ?_|exact zF0|refine zD fun hb=>?_|exact zC|refine zT ?_|fail))
  exact sB (by unfold uX;rw [decide_eq_false h2];rfl)
theorem xw(n:Int):FT 183 [.s (.int .u8 n)] (fun r _=>r=.s (.int .i64 (clsI n))):=by
 refine FI PM Tryz.func183 Tryz.ntmps183 [] rfl rfl ?_
 (have hWf:=f0;repeat' (first|refine zS ?_|refine zI ?_ ?_|exact zF0|refine zD fun hb=>?_|exact zC|refine zT ?_|fail))
 all_goals exact xN (by unfold clsI lowI uppI digI;grind)
theorem toNat_add(i p:Nat):((i:Int)+(p:Int)).toNat=i+p:=by omega
theorem yq(s:ByteArray)(i:Nat)(p:ByteArray)(hs:s.size<=1048576)(hi:i<=1048578)(hp:p.size<=1048576):FT 190 [.s (.string s),.s (.int .i64 i),.s (.string p)] (fun r _=>r=.s (.bool (hasM s p i))):=by
 by_cases hh:i+p.size<=s.size
 .have h1:decide ((i:Int)<=(s.size:Int) - (p.size:Int))=true:=by simp;omega
  refine FI PM Tryz.func190 Tryz.ntmps190 [] rfl rfl ?_
  (have hWf:=w2 @h1 @toNat_add;repeat' (first|refine zS ?_|refine zI ?_ ?_|exact zF0|refine zD fun hb=>?_|exact zC|refine zT ?_|fail))
  exact sB (by unfold hasM;simp [hh])
 .have h1:decide ((i:Int)<=(s.size:Int) - (p.size:Int))=false:=by simp;omega
  refine FI PM Tryz.func190 Tryz.ntmps190 [] rfl rfl ?_
  (have hWf:=w1 @h1;repeat' (first|refine zS ?_|refine zI ?_ ?_|exact zF0|refine zD fun hb=>?_|exact zC|refine zT ?_|fail))
  exact sB (by unfold hasM;simp [hh])
theorem yk(s:ByteArray)(k:Nat):((s.data.toList.getD k 0).toNat:Int)=bAt s k:=rfl
theorem ug{a b:Nat}(h:a<b):decide ((a:Int)<(b:Int))=true:=by simp;omega
theorem Xe{a b:Nat}(h:¬ a<b):decide ((a:Int)<(b:Int))=false:=by simp;omega
theorem natI_ge{a b:Nat}(h:b<=a):decide ((a:Int) ≥ (b:Int))=true:=by simp;omega
theorem natI_nge{a b:Nat}(h:¬ b<=a):decide ((a:Int) ≥ (b:Int))=false:=by simp;omega
theorem noB_eq:noB=⟨#[]⟩:=rfl
theorem cast1(k:Nat):((k+1:Nat):Int)=(k:Int)+1:=by omega
theorem cast2(k:Nat):((k+2:Nat):Int)=(k:Int)+2:=by omega
theorem castp{d:Nat}(h:1<=d):((d - 1:Nat):Int)=(d:Int) - 1:=by omega
theorem zF(k:Nat):((k:Int)+1).toNat=k+1:=by omega
theorem xaY(s:ByteArray)(i:Nat)(hs:s.size<=1048576)(hi:i<s.size)(hl:hasM s lpB i=true):FT 191 [.s (.string s),.s (.int .i64 i)] (fun r _=>r=.s (.int .i64 (match remM s i with|some j=>(j:Int)|none=>-1))):=by
 refine FI PM Tryz.func191 Tryz.ntmps191 [] rfl rfl ?_
 (have hWf:=f0;repeat' (first|refine zS ?_|refine zI ?_ ?_|exact zF0|refine zD fun hb=>?_|exact zC|refine zT ?_|fail))
 refine xn (fun n σ=>∃ f k d:Nat,n=f/\s.size+1<=f+k/\i<=k/\k<=s.size+1/\d<=k/\(1<=d\/(d=0/\hasM s lpB k=true/\k<s.size))/\remF s f k d=remM s i/\σ.t 0=.s (.string s)/\σ.t 1=.s (.int .i64 k)/\σ.t 5=.s (.int .i64 d)) (s.size+1) ⟨s.size+1,i,0,rfl,by omega,by omega,by omega,by omega,.inr ⟨rfl,hl,hi⟩,rfl,?_⟩ ?_
 .simp only [go_sem,simprocAttr,Int.natCast_zero]
 .rintro n σ ⟨f,k,d,rfl,hf,hik,hk,hdk,hd,hw,h0,h1,h4⟩ K' hK
  by_cases hlt:k<s.size
  .obtain ⟨f,rfl⟩:∃ g,n=g+1:=⟨n - 1,by omega⟩
   have hb1:=ug hlt;cases q1:hasM s lpB k with
   | true=>
    rw [remF_open hlt q1] at hw
    have hle:=Ww q1;rw [uf] at hle
    (have hWf:=w5 @h0 @h1 @h4 @hb1 @q1;repeat' (first|refine zS ?_|refine zI ?_ ?_|((with_reducible apply xc);refine zG (yq s k lpB hs (by omega) (by rw [uf];omega)) ?_)|refine zU (yq s k lpB hs (by omega) (by rw [uf];omega)) ?_|exact zF0|refine zD fun hb=>?_|exact zC|refine zT ?_|fail))
    refine hK f _ (by omega) ⟨f,k+2,d+1,rfl,by omega,by omega,by omega,by omega,.inl (by omega),hw,?_⟩
    simp only [go_sem,simprocAttr,h0,h1,h4,cast2 k,cast1 d]
   | false=>
    have hd1:1<=d:=by
     rcases hd with q|⟨_,q,_⟩
     .exact q
     .rw [q1] at q;cases q
    cases q2:hasM s rpB k with
    | true=>
     have hle:=Ww q2;rw [vz] at hle
     by_cases q3:d=1
     .subst q3
      rw [remF_last hlt q1 q2] at hw
      (have hWf:=w9 @h0 @h1 @h4 @hb1 @q1 @q2 @hw.symm @Int.natCast_one (cast2 k);repeat' (first|refine zS ?_|refine zI ?_ ?_|((with_reducible apply xc);refine zG (yq s k lpB hs (by omega) (by rw [uf];omega)) ?_)|refine zU (yq s k lpB hs (by omega) (by rw [uf];omega)) ?_|((with_reducible apply xc);refine zG (yq s k rpB hs (by omega) (by rw [vz];omega)) ?_)|refine zU (yq s k rpB hs (by omega) (by rw [vz];omega)) ?_|exact zF0|refine zD fun hb=>?_|exact zC|refine zT ?_|fail))
     .rw [xb8 hlt q1 q2 q3] at hw
      have e1:((d:Int) - 1==0)=false:=by simp;omega
      (have hWf:=w7 @h0 @h1 @h4 @hb1 @q1 @q2 @e1;repeat' (first|refine zS ?_|refine zI ?_ ?_|((with_reducible apply xc);refine zG (yq s k lpB hs (by omega) (by rw [uf];omega)) ?_)|refine zU (yq s k lpB hs (by omega) (by rw [uf];omega)) ?_|((with_reducible apply xc);refine zG (yq s k rpB hs (by omega) (by rw [vz];omega)) ?_)|refine zU (yq s k rpB hs (by omega) (by rw [vz];omega)) ?_|exact zF0|refine zD fun hb=>?_|exact zC|refine zT ?_|fail))
      refine hK f _ (by omega) ⟨f,k+2,d - 1,rfl,by omega,by omega,by omega,by omega,.inl (by omega),hw,?_⟩
      simp only [go_sem,simprocAttr,h0,h1,h4,cast2 k,castp hd1]
    | false=>
     rw [remF_pass hlt q1 q2] at hw
     (have hWf:=w6 @h0 @h1 @h4 @hb1 @q1 @q2;repeat' (first|refine zS ?_|refine zI ?_ ?_|((with_reducible apply xc);refine zG (yq s k lpB hs (by omega) (by rw [uf];omega)) ?_)|refine zU (yq s k lpB hs (by omega) (by rw [uf];omega)) ?_|((with_reducible apply xc);refine zG (yq s k rpB hs (by omega) (by rw [vz];omega)) ?_)|refine zU (yq s k rpB hs (by omega) (by rw [vz];omega)) ?_|exact zF0|refine zD fun hb=>?_|exact zC|refine zT ?_|fail))
     refine hK f _ (by omega) ⟨f,k+1,d,rfl,by omega,by omega,by omega,by omega,.inl hd1,hw,?_⟩
     simp only [go_sem,simprocAttr,h0,h1,h4,Int.natCast_succ]
  .have hb1:=Xe hlt
   rw [remF_end (by omega)] at hw
   (have hWf:=w5 @h0 @h1 @h4 @hb1 @hw.symm;repeat' (first|refine zS ?_|refine zI ?_ ?_|exact zF0|refine zD fun hb=>?_|exact zC|refine zT ?_|fail))
theorem c_l02End(s:ByteArray)(i:Nat)(hs:s.size<=1048576)(hi:i<s.size):FT 194 [.s (.string s),.s (.int .i64 i)] (fun r _=>r=.s (.int .i64 (match quoE s (i+1) with|some j=>(j:Int)|none=>-1))):=by
 refine FI PM Tryz.func194 Tryz.ntmps194 [] rfl rfl ?_
 (have hWf:=f0;repeat' (first|refine zS ?_|refine zI ?_ ?_|exact zF0|refine zD fun hb=>?_|exact zC|refine zT ?_|fail))
 refine xn (fun n σ=>∃ f k:Nat,n=f/\s.size<=f+k/\i<=k/\k<=s.size+1/\quoF s f k=quoE s (i+1)/\σ.t 0=.s (.string s)/\σ.t 1=.s (.int .i64 k)) s.size ⟨s.size,i+1,rfl,by omega,by omega,by omega,rfl,?_⟩ ?_
 .simp only [go_sem,simprocAttr,Int.natCast_succ]
 .rintro n σ ⟨f,k,rfl,hf,hik,hk,hw,h0,h1⟩ K' hK
  by_cases hlt:k<s.size
  .obtain ⟨f,rfl⟩:∃ g,n=g+1:=⟨n - 1,by omega⟩
   have hb1:=ug hlt
   by_cases q1:bAt s k=92
   .rw [quoF_esc hlt q1] at hw
    (have hWf:=w5 @h0 @h1 @hb1 @yk @q1;repeat' (first|refine zS ?_|refine zI ?_ ?_|exact zF0|refine zD fun hb=>?_|exact zC|refine zT ?_|fail))
    refine hK f _ (by omega) ⟨f,k+2,rfl,by omega,by omega,by omega,hw,?_⟩
    simp only [go_sem,simprocAttr,h0,h1];exact xN (by omega)
   .have e1:(bAt s k==92)=false:=by simpa using q1
    by_cases q2:bAt s k=34
    .rw [quoF_hit hlt q2] at hw
     have hb2:=natI_nge (a:=k) (b:=s.size) (by omega)
     (have hWf:=w7 @h0 @h1 @hb1 @hb2 @yk @q2 @hw.symm;repeat' (first|refine zS ?_|refine zI ?_ ?_|exact zF0|refine zD fun hb=>?_|exact zC|refine zT ?_|fail))
    .have e2:(bAt s k != 34)=true:=by simpa using q2
     rw [quoF_pass hlt q1 q2] at hw
     (have hWf:=w6 @h0 @h1 @hb1 @yk @e1 @e2;repeat' (first|refine zS ?_|refine zI ?_ ?_|exact zF0|refine zD fun hb=>?_|exact zC|refine zT ?_|fail))
     refine hK f _ (by omega) ⟨f,k+1,rfl,by omega,by omega,by omega,hw,?_⟩
     simp only [go_sem,simprocAttr,h0,h1,Int.natCast_succ]
  .have hb1:=Xe hlt
   have hb2:=natI_ge (a:=k) (b:=s.size) (by omega)
   rw [quoF_end (by omega)] at hw
   (have hWf:=w5 @h0 @h1 @hb1 @hb2 @hw.symm;repeat' (first|refine zS ?_|refine zI ?_ ?_|exact zF0|refine zD fun hb=>?_|exact zC|refine zT ?_|fail))
theorem xci:∀ p∈signs,p.size<=2:=by decide +kernel
theorem signs_len:signs.length=22:=rfl
def Yy(s:ByteArray)(i k:Nat):ByteArray:=((signs.drop k).find? fun p=>hasM s p i).getD noB
theorem signR_hit{s:ByteArray}{i k:Nat}(h:k<signs.length)(hh:hasM s signs[k] i=true):Yy s i k=signs[k]:=by
 unfold Yy;rw [List.drop_eq_getElem_cons h,List.find?_cons,hh];rfl
theorem xch{s:ByteArray}{i k:Nat}(h:k<signs.length)(hh:hasM s signs[k] i=false):Yy s i k=Yy s i (k+1):=by
 unfold Yy;rw [List.drop_eq_getElem_cons h,List.find?_cons,hh]
theorem signR_end{s:ByteArray}{i k:Nat}(h:signs.length<=k):Yy s i k=noB:=by
 unfold Yy;rw [List.drop_eq_nil_of_le h];rfl
theorem c_l02Sign(s:ByteArray)(i:Nat)(hs:s.size<=1048576)(hi:i<s.size):FT 196 [.s (.string s),.s (.int .i64 i)] (fun r _=>r=.s (.string (y8 s i))):=by
 refine FI PM Tryz.func196 Tryz.ntmps196 [] rfl rfl ?_
 (have hWf:=f0;repeat' (first|refine zS ?_|refine zI ?_ ?_|exact zF0|refine zD fun hb=>?_|exact zC|refine zT ?_|fail))
 refine xn (fun n σ=>∃ k:Nat,k<=22/\n=22 - k/\Yy s i k=y8 s i/\σ.t 0=.s (.string s)/\σ.t 1=.s (.int .i64 i)/\σ.t 7=.bs 7 1 22/\σ.b 7=some (.arr 9 1 (signs.map stE))/\σ.t 8=.s (.int .i64 (22:Nat))/\σ.t 9=.s (.int .i64 k)) 22 ⟨0,by omega,by omega,rfl,?_⟩ ?_
 .simp only [go_sem,simprocAttr,Int.natCast_zero]
  rfl
 .rintro n σ ⟨k,hk,rfl,hr,h0,h1,h7,hb7,h8,h9⟩ K' hK
  by_cases hlt:k<22
  .have hlt':k<signs.length:=hlt
   have hx:=xi stE signs k hlt';have he:=xH signs[k];have hl:((signs.map stE).length:Nat)=22:=rfl;have hb1:=ug hlt;have hsz:=xci _ (List.getElem_mem hlt');cases q:hasM s signs[k] i with
   | true=>
    rw [signR_hit hlt' q] at hr
    (have hWf:=w10 @h0 @h1 @h7 @hb7 @h8 @h9 @hx @he @hl (ai @hb1<|ai @q<|@hr.symm);repeat' (first|refine zS ?_|refine zI ?_ ?_|((with_reducible apply xc);refine zG (yq s i signs[k] hs (by omega) (by omega)) ?_)|refine zU (yq s i signs[k] hs (by omega) (by omega)) ?_|exact zF0|refine zD fun hb=>?_|exact zC|refine zT ?_|fail))
   | false=>
    rw [xch hlt' q] at hr
    (have hWf:=w10 @h0 @h1 @h7 @hb7 @h8 @h9 @hx @he @hl (ai @hb1<|@q);repeat' (first|refine zS ?_|refine zI ?_ ?_|((with_reducible apply xc);refine zG (yq s i signs[k] hs (by omega) (by omega)) ?_)|refine zU (yq s i signs[k] hs (by omega) (by omega)) ?_|exact zF0|refine zD fun hb=>?_|exact zC|refine zT ?_|fail))
    refine hK (22 - (k+1)) _ (by omega) ⟨k+1,by omega,rfl,hr,?_⟩
    simp only [go_sem,simprocAttr,h0,h1,h7,hb7,h8,h9,cast1]
  .obtain rfl:k=22:=by omega
   rw [signR_end (k:=22) (by rw [signs_len];omega)] at hr
   (have hWf:=w8 @h0 @h1 @h7 @hb7 @h8 @h9 @hr.symm @noB_eq;repeat' (first|refine zS ?_|refine zI ?_ ?_|exact zF0|refine zD fun hb=>?_|exact zC|refine zT ?_|fail))
theorem xF(c:Cur){n:Int}(h:0<n)(hn:n<=4294967296):∃ x c',0<=x/\x<n/\FT 53 [c.d,.s (.int .i64 n)] (fun r o=>r=.s (.int .i64 x)/\o=[Cur.d c',.un]):=
 ⟨(c.below n).1,(c.below n).2,(c.below_bd h).1,(c.below_bd h).2,c_below c n hn⟩
theorem ye(n:Nat):(no_index (OfNat.ofNat n):Int).toNat=OfNat.ofNat n:=rfl
def StrR(m:Nat)(r:D):Prop:=∃ s:ByteArray,r=.s (.string s)/\s.size<=m
theorem ZK(k:Int)(h0:0<=k)(h1:k<12):FT 230 [.s (.int .i64 k)] (fun r _=>StrR 1000 r):=by
 have e:k.tmod ((12:Nat):Int)=k:=Int.tmod_eq_of_lt h0 (by simpa using h1)
 have hk:k=0\/k=1\/k=2\/k=3\/k=4\/k=5\/k=6\/k=7\/k=8\/k=9\/k=10\/k=11:=by omega
 rcases hk with rfl|rfl|rfl|rfl|rfl|rfl|rfl|rfl|rfl|rfl|rfl|rfl
 all_goals
  refine FI PM Tryz.func230 Tryz.ntmps230 [] rfl rfl ?_
  (have hWf:=w2 @e @ye;repeat' (first|refine zS ?_|refine zI ?_ ?_|exact zF0|refine zD fun hb=>?_|exact zC|refine zT ?_|fail))
  first|exact ⟨_,rfl,by decide⟩|trace_state
theorem ob2{A L:ByteArray}(hA:A.size<=100000)(hL:L.size<=100000):((A.size+L.size:Nat):Int)<=9223372036854775807:=by omega
theorem ob3{A L C:ByteArray}(hA:A.size<=100000)(hL:L.size<=20)(hC:C.size<=100000):(((A++L).size+C.size:Nat):Int)<=9223372036854775807:=by rw [ByteArray.size_append];omega
theorem st2{m:Nat}{A C:ByteArray}(h:A.size+C.size<=m):StrR (m+20) (.s (.string (A++C))):=⟨_,rfl,by rw [ByteArray.size_append];omega⟩
theorem st3{m:Nat}{A L C:ByteArray}(h:A.size+C.size<=m)(hL:L.size<=20):StrR (m+20) (.s (.string (A++L++C))):=⟨_,rfl,by rw [ByteArray.size_append,ByteArray.size_append];omega⟩
theorem int0:Int.toNat 0=0:=rfl
theorem AC_gen{M:Md}{N:Nat}{pl:List (Nat×Plan)}{K:Exit->St->Prop}{σ:St}{cd:Code}(id:Nat){e k:Nat}{rows:List (List D)}(hb:σ.b id=some (.arr e k rows))(P:List (List D)->Prop)(hP:P rows)(h:∀ rows',P rows'->AC M N pl cd K (σ.setB id (.arr e k rows'))):AC M N pl cd K σ:=by
 have h1:=h rows hP;have e1:σ.setB id (.arr e k rows)=σ:=by
  cases σ with
  | mk t b=>
   have hb:b id=some (.arr e k rows):=hb;show St.mk t _=St.mk t b
   congr 1
   funext j
   by_cases q:j=id
   .subst q;simp [St.setB,hb]
   .simp [St.setB,q]
 rwa [e1] at h1
theorem VV(c:Cur)(s:ByteArray)(hs:s.size<=100000):FT 231 [c.d,.s (.string s)] (fun r o=>StrR (s.size+20) r/\∃ c',o=[Cur.d c',.un]):=by
 by_cases hz:s.size=0
 .have e1:((s.size:Int)==0)=true:=by simp [hz]
  refine FI PM Tryz.func231 Tryz.ntmps231 [(6,7,[],[],(lin [] [0,1,2,3,4,5,6])),(10,14,[7],[(7,0),(7,1),(7,2),(7,3),(7,11),(7,12),(7,13)],(lin [7] [0,1,2,3,4,5,6,11,12,13,7,8,9,10]))] rfl rfl ?_
  (have hWf:=w1 @e1;repeat' (first|refine zS ?_|refine zI ?_ ?_|exact zF0|refine zD fun hb=>?_|exact zC|refine zT ?_|fail))
  .exact ⟨_,rfl,by rw [hz];decide⟩
  .exact ⟨c,rfl⟩
 .have e1:((s.size:Int)==0)=false:=by simpa using hz
  obtain ⟨p,c1,p0,p1,B1⟩:=xF c (n:=s.size) (by omega) (by omega)
  obtain ⟨k,c2,k0,k1,B2⟩:=xF c1 (n:=4) (by omega) (by omega)
  obtain ⟨q,c3,q0,q1,B3⟩:=xF c2 (n:=((40:Nat):Int)) (by simp) (by simp)
  obtain ⟨p,rfl⟩:=Int.eq_ofNat_of_zero_le p0;have hp:p<s.size:=by omega
  have x1:(s.extract 0 p).size=p:=by rw [ByteArray.size_extract];omega
  by_cases hk0:k=0
  .subst hk0
   have x2:(s.extract (p+1) s.size).size=s.size - (p+1):=by rw [ByteArray.size_extract];omega
   refine FI PM Tryz.func231 Tryz.ntmps231 [(6,7,[],[],(lin [] [0,1,2,3,4,5,6])),(10,14,[7],[(7,0),(7,1),(7,2),(7,3),(7,11),(7,12),(7,13)],(lin [7] [0,1,2,3,4,5,6,11,12,13,7,8,9,10]))] rfl rfl ?_
   (have hWf:=w3 @e1 @int0 @zF;repeat' (first|refine zS ?_|refine zI ?_ ?_|refine zH B1 ?_|refine zH B2 ?_|exact zF0|refine zD fun hb=>?_|exact zC|refine zT ?_|fail))
   .exact st2 (by omega)
   .exact ⟨c2,rfl⟩
  .have f0:(k==0)=false:=by simpa using hk0
   by_cases hk1:k=1
   .subst hk1
    refine FI PM Tryz.func231 Tryz.ntmps231 [(6,7,[],[],(lin [] [0,1,2,3,4,5,6])),(10,14,[7],[(7,0),(7,1),(7,2),(7,3),(7,11),(7,12),(7,13)],(lin [7] [0,1,2,3,4,5,6,11,12,13,7,8,9,10]))] rfl rfl ?_
    (have hWf:=w2 @e1 @int0;repeat' (first|refine zS ?_|refine zI ?_ ?_|refine zH B1 ?_|refine zH B2 ?_|exact zF0|refine zD fun hb=>?_|exact zC|refine zT ?_|fail))
    .exact ⟨_,rfl,by omega⟩
    .exact ⟨c2,rfl⟩
   .have f1:(k==1)=false:=by simpa using hk1
    have x3:(s.extract p s.size).size=s.size - p:=by rw [ByteArray.size_extract];omega
    obtain ⟨q,rfl⟩:=Int.eq_ofNat_of_zero_le q0;have hq:q<40:=by omega
    refine FI PM Tryz.func231 Tryz.ntmps231 [(6,7,[],[],(lin [] [0,1,2,3,4,5,6])),(10,14,[7],[(7,0),(7,1),(7,2),(7,3),(7,11),(7,12),(7,13)],(lin [7] [0,1,2,3,4,5,6,11,12,13,7,8,9,10]))] rfl rfl ?_
    iterate 13 (refine xE ?_;simp only [go_sem,simprocAttr,e1,f0,f1,int0];(have hWf:=w4 @e1 @f0 @f1 @int0;repeat' (first|refine zY ?_|refine zI ?_ ?_|refine zH B1 ?_|refine zH B2 ?_|exact zF1|refine zD fun hb=>?_|exact zC|refine zT ?_|fail)))
    refine AC_gen 32 (by (simp only [go_sem,simprocAttr]);rfl) (fun rows=>∃ ss:List ByteArray,rows=ss.map stE/\ss.length=40/\∀ x∈ss,x.size<=20) ?_ ?_
    .exact ⟨[_,_,_,_,_,_,_,_,_,_,_,_,_,_,_,_,_,_,_,_,_,_,_,_,_,_,_,_,_,_,_,_,_,_,_,_,_,_,_,_],rfl,rfl,by decide⟩
    rintro rows ⟨ss,rfl,hl,hsz⟩
    have hx:=xi stE ss q (by omega)
    have he:=xH (ss[q]'(by omega))
    have hss:=hsz _ (List.getElem_mem (show q<ss.length by omega))
    have hlen:((ss.map stE).length:Nat)=40:=by simp [hl]
    (have hWf:=w7 @e1 @f0 @f1 @int0 @hx @he @hlen;repeat' (first|refine zS ?_|refine zI ?_ ?_|refine zX B3 ?_|((with_reducible apply xc);refine xu (B3) ?_;rintro _ _ ⟨rfl,rfl⟩)|exact zF0|refine zD fun hb=>?_|exact zC|refine zT ?_|fail))
    all_goals first|exact ob2 (by omega) (by omega)|exact ob3 (by omega) (by omega) (by omega)|exact st3 (by omega) (by omega)|exact ⟨c3,rfl⟩|trace_state
end
section
def zV(f:Nat->Option Nat):List Int->Nat->Option Nat
 | [],next=>some next
 | k::l,next=>if k=(next:Int) then (f next).bind (zV f l) else none
def pEnd(ks:List (List Int)):Nat->Nat->Option Nat
 | 0,_=>none
 | n+1,at_=>(ks[at_]?).bind fun l=>zV (pEnd ks n) l (at_+1)
def yN(ks:List (List Int))(n:Nat)(i:Int)(m:Nat):Option Nat:=if i=(m:Int) then pEnd ks n m else none
def yi(ks:List (List Int)):Bool:=pEnd ks ks.length 0==some ks.length
theorem vM(ks:List (List Int))(n:Nat)(k:Int)(l:List Int)(m:Nat):zV (pEnd ks n) (k::l) m=(yN ks n k m).bind (zV (pEnd ks n) l):=by
 unfold yN;rw [zV];split<;>rfl
theorem xau(f:Nat->Option Nat)(N:Nat)(hf:∀ m e,f m=some e->m<e/\e<=N):∀ (l:List Int) (m e:Nat),m<=N->zV f l m=some e->m<=e/\e<=N
 | [],m,e,hm,h=>by
  have h':some m=some e:=h;injection h' with h';omega
 | k::l,m,e,hm,h=>by
  rw [zV] at h
  split at h
  .cases hc:f m with
   | none=>rw [hc] at h;cases h
   | some e1=>
    rw [hc] at h
    have:=hf m e1 hc;have:=xau f N hf l e1 e this.2 h;omega
  .cases h
theorem YS(ks:List (List Int)):∀ (n m e:Nat),pEnd ks n m=some e->m<e/\e<=ks.length
 | 0,m,e,h=>by cases h
 | n+1,m,e,h=>by
  rw [pEnd] at h
  cases hl:ks[m]? with
  | none=>rw [hl] at h;cases h
  | some l=>
   rw [hl] at h
   have hm:m<ks.length:=by
    rcases Nat.lt_or_ge m ks.length with q|q
    .exact q
    .rw [List.getElem?_eq_none q] at hl;cases hl
   have:=xau (pEnd ks n) ks.length (YS ks n) l (m+1) e hm h;omega
theorem UC{ks:List (List Int)}{n:Nat}{i:Int}{m e:Nat}(h:yN ks n i m=some e):i=m/\m<e/\e<=ks.length:=by
 unfold yN at h
 split at h
 .rename_i hi
  have:=YS ks n m e h;exact ⟨hi,this⟩
 .cases h
theorem YR(ks:List (List Int))(n m:Nat)(h:m<ks.length):pEnd ks (n+1) m=zV (pEnd ks n) ks[m] (m+1):=by
 rw [pEnd,List.getElem?_eq_getElem h];rfl
theorem Ye(ks:List (List Int))(n m:Nat)(h:ks.length<=m):pEnd ks n m=none:=by
 cases n with
 | zero=>rfl
 | succ n=>rw [pEnd,List.getElem?_eq_none h];rfl
def endZ(o:Option Nat):Int:=match o with|none=>-1|some e=>(e:Int)
theorem Ua(o:Option Nat)(n:Nat):(endZ o==(n:Int))=(o==some n):=by
 cases o with
 | none=>simp [endZ]
 | some e=>
  simp only [endZ]
  by_cases h:e=n
  .subst h;simp
  .have:¬ (e:Int)=n:=by omega
   have a:((e:Int)==(n:Int))=false:=beq_eq_false_iff_ne.mpr this;have b:(some e==some n)=false:=beq_eq_false_iff_ne.mpr (by simpa using h)
   rw [a,b]
theorem ZO{α:Type}(l:List α)(j:Nat)(h:j<l.length):l.drop j=l[j]::l.drop (j+1):=List.drop_eq_getElem_cons h
end
section
open Go.RowKit
def intR(_:Hp)(r:List Value)(x:Int):Prop:=r=[.int .i64 x]/\I64 x
abbrev IntS(h:Hp)(v:Value)(xs:List Int):Prop:=SlOf 1 intR h v xs
theorem IntS.mono{h h':Hp}{v:Value}{xs:List Int}(q:IntS h v xs)(l:HLe h h'):IntS h' v xs:=SlOf.le q l fun _ _ _ q=>q
theorem IntS.mem{h:Hp}{v:Value}{xs:List Int}(q:IntS h v xs):∀ x∈xs,I64 x:=by
 obtain ⟨a,c,_,_,_,r⟩:=q;intro x hx;rcases r with rfl|⟨b,off,_,hc⟩
 .cases hx
 .obtain ⟨i,hi,rfl⟩:=List.getElem_of_mem hx
  obtain ⟨_,_,_,hr⟩:=hc i hi;exact hr.2
theorem IntS.cell{h:Hp}{a:Option Addr}{n c:Nat}{xs:List Int}(q:IntS h (.slice a n c) xs){i:Nat}(hi:i<xs.length) :
  ∃ b off,a=some ⟨b,off,none⟩/\∀ j (hj:j<xs.length),∀ w:World,Sub h w->w.cell? ⟨b,off+j,none⟩=some (.int .i64 xs[j]):=by
 obtain ⟨a',c',e,_,_,r⟩:=q;injection e with e1 e2 e3
 subst e1;rcases r with rfl|⟨b,off,ea,hc⟩
 .simp at hi
 .refine ⟨b,off,ea,fun j hj w hw=>?_⟩
  obtain ⟨r,hr1,hr2,hr3⟩:=hc j hj;rw [hr3.1,Nat.mul_one] at hr2
  exact hr2.cell hw (i:=0) (by simp)
theorem set_selfP{w:World}{b o:Nat}{x:Value}(h:w.cell? ⟨b,o,none⟩=some x)(y:Value):(w.setCell ⟨b,o,none⟩ y).cell? ⟨b,o,none⟩=some y:=by
 unfold World.cell? at h
 split at h
 .rename_i c e fr he
  have hh:(w.setCell ⟨b,o,none⟩ y).heap[b]?=some (.cells (c.setIfInBounds o y) e fr):=by
   simp only [World.setCell,Array.getElem?_modify,if_true,he,Option.map_some];rw [if_neg (by simp)]
  unfold World.cell?;rw [hh];simp only at h ⊢
  rw [if_neg (by simp)] at h ⊢
  have hlt:o<c.size:=by
   rcases Nat.lt_or_ge o c.size with q|q
   .exact q
   .rw [Array.getElem?_eq_none q] at h;cases h
  simp [hlt]
 .cases h
theorem xce{w:World}{b o b' o':Nat}(y:Value)(_:True)(h:b'≠b):(w.setCell ⟨b,o,none⟩ y).cell? ⟨b',o',none⟩=w.cell? ⟨b',o',none⟩:=by
 unfold World.cell?;rw [Below.heap_setCell _ _ _ _ (by exact h)]
theorem beq_someP(a b:Nat):((a:Int)==(b:Int))=(some a==some b):=Ua (some a) b
def KidQ(h:Hp)(w:World)(l:List Int)(e:Ending)(w':World):Prop:=∃ v,e=.returned v/\IntS h v l/\Below w.heap.size w w'
def WalkQ(R:Option Nat)(w0:World)(B:Nat)(W:Value)(e:Ending)(w':World):Prop:=
 Below w0.heap.size w0 w'/\((R=none/\e=.returned (.bool false))\/∃ e1:Nat,R=some e1/\e=.returned (.bool true)/\w'.cell? ⟨B,0,none⟩=some (.int .i64 e1)/\w'.frozen? ⟨B,0,none⟩=false/\w'.cell? ⟨B+1,0,none⟩=some W)
def KidR(k c:Nat)(h:Hp)(r:List Value)(l:List Int):Prop:=r.length=k/\∃ u,r[c]?=some u/\IntS h u l
abbrev KidsAt(k c:Nat)(h:Hp)(v:Value)(ks:List (List Int)):Prop:=SlOf k (KidR k c) h v ks
theorem KidsAt.cell{k c:Nat}{h:Hp}{a:Option Addr}{n m:Nat}{ks:List (List Int)}(q:KidsAt k c h (.slice a n m) ks){i:Nat}(hi:i<ks.length) :
  ∃ b off,a=some ⟨b,off,none⟩/\∀ j (hj:j<ks.length),∃ v1:Value,IntS h v1 ks[j]/\∀ w:World,Sub h w->w.cell? ⟨b,off+j*k+c,none⟩=some v1:=by
 obtain ⟨a',c',e,-,-,h0|⟨b,off,ea,hc⟩⟩:=q
 .subst h0;cases hi
 .injection e with e1 e2 e3
  refine ⟨b,off,e1.trans ea,fun j hj=>?_⟩
  obtain ⟨r,r1,r2,r4,u,hu,r3⟩:=hc j hj;obtain ⟨hlt,he⟩:=List.getElem?_eq_some_iff.1 hu;exact ⟨u,r3,fun w hw=>by rw [r2.cell hw (i:=c) hlt,he]⟩
theorem node_walk(w0:World)(ks:List (List Int))(hl:ks.length<=1000000000)(hks:∀ k (h:k<ks.length),ks[k].length<=1000000000)(K:FuncId)(cap:Value)(hEnt:∀ vs w,(callFunc K vs).run Tryz.prog w=.ok (.enter K vs) w)(hKid:∀ w,Below w0.heap.size w0 w->∀ m (hm:m<ks.length),Calls Tryz.prog K #[.int .i64 m,cap] w fun e w'=>KidQ (hp w0) w ks[m] e w')(Bn Bk:Nat)(hN:w0.cell? ⟨Bn,0,none⟩=some (.int .i64 ks.length))(hK:w0.cell? ⟨Bk,0,none⟩=some (.func (.func K) #[] #[cap]))
  :
  ∀ (n:Nat) (w:World) (i:Int) (m:Nat) (hi:I64 i) (hb:Below w0.heap.size w0 w) (hn:ks.length - m<=n) (c0:w.cell? ⟨w0.heap.size,0,none⟩=some (.int .i64 m)) (f0:w.frozen? ⟨w0.heap.size,0,none⟩=false) (c1:w.cell? ⟨w0.heap.size+1,0,none⟩=some (.func (.func 176) #[] #[.pointer (some ⟨w0.heap.size,0,none⟩),.pointer (some ⟨Bn,0,none⟩),.pointer (some ⟨Bk,0,none⟩),.pointer (some ⟨w0.heap.size+1,0,none⟩)])),
  Calls Tryz.prog 176 #[.int .i64 i,.pointer (some ⟨w0.heap.size,0,none⟩),.pointer (some ⟨Bn,0,none⟩),.pointer (some ⟨Bk,0,none⟩),.pointer (some ⟨w0.heap.size+1,0,none⟩)] w fun e w'=>WalkQ (yN ks n i m) w0 w0.heap.size (.func (.func 176) #[] #[.pointer (some ⟨w0.heap.size,0,none⟩),.pointer (some ⟨Bn,0,none⟩),.pointer (some ⟨Bk,0,none⟩),.pointer (some ⟨w0.heap.size+1,0,none⟩)]) e w':=by
 have HKID:=Lib.hid hKid;have hBk:Bk<w0.heap.size:=World.block_lt_of_cell? _ _ hK;have hBn:Bn<w0.heap.size:=World.block_lt_of_cell? _ _ hN;clear hKid;have out:∀ (n:Nat) (w:World) (i:Int) (m:Nat) (hi:I64 i) (hb:Below w0.heap.size w0 w) (c0:w.cell? ⟨w0.heap.size,0,none⟩=some (.int .i64 m)) (hbad:¬ (i=(m:Int)/\m<ks.length)),
   Calls Tryz.prog 176 #[.int .i64 i,.pointer (some ⟨w0.heap.size,0,none⟩),.pointer (some ⟨Bn,0,none⟩),.pointer (some ⟨Bk,0,none⟩),.pointer (some ⟨w0.heap.size+1,0,none⟩)] w fun e w'=>WalkQ (yN ks n i m) w0 w0.heap.size (.func (.func 176) #[] #[.pointer (some ⟨w0.heap.size,0,none⟩),.pointer (some ⟨Bn,0,none⟩),.pointer (some ⟨Bk,0,none⟩),.pointer (some ⟨w0.heap.size+1,0,none⟩)]) e w':=by
  intro n w i m hi hb c0 hbad;unfold I64 at hi
  have kN:=wQ hb hN;have HR:yN ks n i m=none:=by
   unfold yN;split
   .rename_i e
    exact Ye _ _ _ (by rcases Nat.lt_or_ge m ks.length with q|q;exact absurd ⟨e,q⟩ hbad;exact q)
   .rfl
  rw [HR];clear HR
  by_cases him:i=m
  .subst him
   have hge:¬ m<ks.length:=fun q=>hbad ⟨rfl,q⟩
   clear hbad
   go_enter Tryz.func176,Tryz.ntmps176
   go_wp2_with fail
   go_ret
   exact ⟨hb,.inl ⟨rfl,rfl⟩⟩
  .clear hbad
   go_enter Tryz.func176,Tryz.ntmps176
   go_wp2_with fail
   go_ret
   exact ⟨hb,.inl ⟨rfl,rfl⟩⟩
 have OUT:=Lib.hid out;clear out;intro n
 induction n with
 | zero=>
  intro w i m hi hb hn c0 f0 c1;exact OUT.out 0 w i m hi hb c0 (by omega)
 | succ n ih=>
  intro w i m hi hb hn c0 f0 c1
  by_cases hin:i=(m:Int)/\m<ks.length
  .obtain ⟨him,hlt⟩:=hin
   subst him;have kN:=wQ hb hN;have kK:=wQ hb hK;have IH:=Lib.hid ih;have HR:yN ks (n+1) m m=zV (pEnd ks n) ks[m] (m+1):=by
    unfold yN;rw [if_pos rfl,YR _ _ _ hlt]
   obtain ⟨R,hR⟩:∃ R,yN ks (n+1) m m=R:=⟨_,rfl⟩;rw [hR];rw [hR] at HR
   have HRR:=Lib.hid HR;clear hR HR ih;have hb1:=hb.setCell (p:=⟨w0.heap.size,0,none⟩) (Nat.le_refl _) (.int .i64 ((m:Int)+1));have KK:=Lib.hid (HKID.out _ hb1 m hlt);have HB1:=Lib.hid hb1;have hx:w0.heap.size<w.heap.size:=World.block_lt_of_cell? _ _ c0;have hxx:w0.heap.size+1<w.heap.size:=World.block_lt_of_cell? _ _ c1;clear hb1
   go_enter Tryz.func176,Tryz.ntmps176
   go_wp2_with fail
   refine KK.out.mono ?_
   rintro e w1 ⟨v1,rfl,hv1,hb2⟩
   have d0:w1.cell? ⟨w0.heap.size,0,none⟩=some (.int .i64 ((m+1:Nat):Int)):=by
    rw [(bcell hb2).1 _ _ (by simp<;>omega)];exact set_selfP c0 _
   have d1:w1.frozen? ⟨w0.heap.size,0,none⟩=false:=by
    rw [(bcell hb2).2 _ _ (by simp<;>omega)];exact (World.frozen?_setCell _ _ _ _).trans f0
   have d2:w1.cell? ⟨w0.heap.size+1,0,none⟩=some (.func (.func 176) #[] #[.pointer (some ⟨w0.heap.size,0,none⟩),.pointer (some ⟨Bn,0,none⟩),.pointer (some ⟨Bk,0,none⟩),.pointer (some ⟨w0.heap.size+1,0,none⟩)]):=by
    rw [(bcell hb2).1 _ _ (by simp<;>omega)];exact (xce _ trivial (by omega)).trans c1
   have hb3:=Xk hb2 HB1.out HB1.out.size;clear c0 f0 c1 kN kK;have HV1:=Lib.hid hv1;have hm1:=Lib.hid hv1.mem;obtain ⟨a,c,rfl,hc1,hc2,-⟩:=hv1;unfold maxLen at hc2
   have hll:ks[m].length<=1000000000:=hks m hlt;have HB3:=Lib.hid hb3;have D0:=Lib.hid d0;have D1:=Lib.hid d1;have D2:=Lib.hid d2;clear hb3 d0 d1 d2
   go_wp2_with fail
   go_loopw [8,23] (fun q i wr=>∃ (j cur:Nat),j<=ks[m].length/\i=.int .i64 j/\m<cur/\zV (pEnd ks n) (ks[m].drop j) cur=R/\wr.cell? ⟨w0.heap.size,0,none⟩=some (.int .i64 cur)/\wr.frozen? ⟨w0.heap.size,0,none⟩=false/\wr.cell? ⟨w0.heap.size+1,0,none⟩=some (.func (.func 176) #[] #[.pointer (some ⟨w0.heap.size,0,none⟩),.pointer (some ⟨Bn,0,none⟩),.pointer (some ⟨Bk,0,none⟩),.pointer (some ⟨w0.heap.size+1,0,none⟩)])/\Below w0.heap.size w0 wr) (fun _ i _=>ks[m].length - (intOf i).toNat)
   case atStart=>exact ⟨0,m+1,by omega,rfl,by omega,by rw [HRR.out];rfl,D0.out,D1.out,D2.out,HB3.out⟩
   case round=>
    obtain ⟨j,cur,hj,rfl,hcur,hp,g0,g1,g2,hbel⟩:=hrel;have HP:=Lib.hid hp;clear hp
    by_cases hjl:j<ks[m].length
    .obtain ⟨b,off,rfl,hcell⟩:=HV1.out.cell hjl
     have hc:=hcell j hjl wr ((Sub.self w0).below hbel);have hki:=Lib.hid (hm1.out _ (List.getElem_mem hjl));have KI:=Lib.hid (IH.out wr ks[m][j] cur hki.out hbel (by omega) g0 g1 g2)
     have HQ:(yN ks n ks[m][j] cur).bind (zV (pEnd ks n) (ks[m].drop (j+1)))=R:=by
      rw [<- HP.out,ZO _ j hjl,vM]
     have HQQ:=Lib.hid HQ;clear HQ hcell g0 g1
     go_wp2_with fail
     refine KI.out.mono ?_
     rintro e w2 ⟨hb4,(⟨hn1,rfl⟩|⟨e1,hs1,rfl,g0',g1',g2'⟩)⟩
     .have HE:R=none:=by rw [<- HQQ.out,hn1];rfl
      have HEE:=Lib.hid HE;clear HE hn1
      go_wp2_with fail
      go_ret
      exact ⟨hb4,.inl ⟨HEE.out,rfl⟩⟩
     .have hgt:=UC hs1
      have HE:zV (pEnd ks n) (ks[m].drop (j+1)) e1=R:=by rw [<- HQQ.out,hs1];rfl
      have HEE:=Lib.hid HE;have G0:=Lib.hid g0';have G1:=Lib.hid g1';have G2:=Lib.hid g2';clear HE hs1 g0' g1' g2'
      go_wp2_with fail
      refine ⟨⟨j+1,e1,by omega,by go_num,by omega,HEE.out,G0.out,G1.out,G2.out,hb4⟩,?_⟩
      simp [intOf];omega
    .have HE:R=some cur:=by
      rw [<- HP.out,List.drop_eq_nil_of_le (by omega)];rfl
     have HEE:=Lib.hid HE;have G0:=Lib.hid g0;have G1:=Lib.hid g1;have G2:=Lib.hid g2;clear HE g0 g1 g2
     go_wp2_with fail
     go_ret
     exact ⟨hbel,.inr ⟨cur,HEE.out,rfl,G0.out,G1.out,G2.out⟩⟩
  .exact OUT.out (n+1) w i m hi hb c0 hin
theorem xaq(w:World)(ks:List (List Int))(hl:ks.length<=1000000000)(hks:∀ k (h:k<ks.length),ks[k].length<=1000000000)(K:FuncId)(cap:Value)(hEnt:∀ vs w,(callFunc K vs).run Tryz.prog w=.ok (.enter K vs) w)(hKid:∀ w1,Below w.heap.size w w1->∀ m (hm:m<ks.length),Calls Tryz.prog K #[.int .i64 m,cap] w1 fun e w'=>KidQ (hp w) w1 ks[m] e w') :
  Calls Tryz.prog 95 #[.int .i64 ks.length,.func (.func K) #[] #[cap]] w fun e w'=>e=.returned (.bool (yi ks))/\Below w.heap.size w w':=by
 obtain ⟨w0,hw0⟩:∃ w0,w0=(w.alloc (.cells #[.int .i64 ks.length] 3)).alloc (.cells #[.func (.func K) #[] #[cap]] 148):=⟨_,rfl⟩;have b0:Below w.heap.size w w0:=by rw [hw0];exact (by repeat (first|with_reducible exact Below.refl _ _|with_reducible assumption|with_reducible refine Below.setCell ?_ ?_ _|with_reducible refine Below.alloc ?_ ?_ _|with_reducible refine Below.drew ?_|(with_reducible apply Xk;with_reducible assumption)|exact Nat.le_refl _|omega|(simp<;>omega)))
 have z0:w0.heap.size=w.heap.size+1+1:=by rw [hw0];simp
 have n0:w0.cell? ⟨w.heap.size,0,none⟩=some (.int .i64 ks.length):=by rw [hw0];exact wQ ((Below.refl _ _).alloc (Nat.le_refl _) _) (Xv _ _ _)
 have n1:w0.cell? ⟨w.heap.size+1,0,none⟩=some (.func (.func K) #[] #[cap]):=by
  have q:=Xv (w.alloc (.cells #[.int .i64 ks.length] 3)) (.func (.func K) #[] #[cap]) 148;rw [hw0]
  rwa [show (w.alloc (.cells #[.int .i64 ks.length] 3)).heap.size=w.heap.size+1 by simp] at q
 have q0:(w0.alloc (.cells #[.int .i64 0] 3)).heap.size=w0.heap.size+1:=by simp
 have m0:=wQ ((Below.refl (w0.alloc (.cells #[.int .i64 0] 3)).heap.size _).alloc (Nat.le_refl _) (.cells #[.func (.func 176) #[] #[.pointer (some ⟨w0.heap.size,0,none⟩),.pointer (some ⟨w.heap.size,0,none⟩),.pointer (some ⟨w.heap.size+1,0,none⟩),.pointer (some ⟨w0.heap.size+1,0,none⟩)]] 108)) (Xv w0 (.int .i64 0) 3);have m1:=Xv (w0.alloc (.cells #[.int .i64 0] 3)) (.func (.func 176) #[] #[.pointer (some ⟨w0.heap.size,0,none⟩),.pointer (some ⟨w.heap.size,0,none⟩),.pointer (some ⟨w.heap.size+1,0,none⟩),.pointer (some ⟨w0.heap.size+1,0,none⟩)]) 108
 rw [q0] at m1
 have KW:=node_walk w0 ks hl hks K cap hEnt (fun w1 hb1 m hm=>(hKid w1 (b0.trans (hb1.mono b0.size)) m hm).mono fun e w2 ⟨u,e1,h1,h2⟩=>⟨u,e1,h1.mono ((Sub.self w).below b0).hle,h2⟩) w.heap.size (w.heap.size+1) n0 n1 ks.length ((w0.alloc (.cells #[.int .i64 0] 3)).alloc (.cells #[.func (.func 176) #[] #[.pointer (some ⟨w0.heap.size,0,none⟩),.pointer (some ⟨w.heap.size,0,none⟩),.pointer (some ⟨w.heap.size+1,0,none⟩),.pointer (some ⟨w0.heap.size+1,0,none⟩)]] 108)) 0 0 (by unfold I64;omega) (((Below.refl _ _).alloc (Nat.le_refl _) _).alloc (by simp) _) (by omega) m0 ((frozen?_alloc_cells _ _ _ _).trans ((frozen?_alloc_cells _ _ _ _).trans (by unfold World.frozen?;rw [Array.getElem?_eq_none (Nat.le_refl _)]))) m1
 have hR:yN ks ks.length 0 0=pEnd ks ks.length 0:=by unfold yN;rw [if_pos (by rfl)]
 rw [hR] at KW
 obtain ⟨R,hR2⟩:∃ R,pEnd ks ks.length 0=R:=⟨_,rfl⟩;have hM:yi ks=(R==some ks.length):=by
  rw [<- hR2];unfold yi
  rfl
 rw [hM];rw [hR2] at KW
 rw [hw0] at KW b0 n0
 have N0:=Lib.hid n0;have hBN:w.heap.size<w.heap.size+1+1:=by omega
 rw [show ((w.alloc (.cells #[.int .i64 ks.length] 3)).alloc (.cells #[.func (.func K) #[] #[cap]] 148)).heap.size=w.heap.size+1+1 by simp] at KW
 have HK:=Lib.hid KW;have HB0:=Lib.hid b0;clear KW m0 m1 q0 n0 n1 z0 b0 hM hR hR2 hKid hks;clear hw0;clear w0
 go_enter Tryz.func95,Tryz.ntmps95
 go_wp2_with fail
 refine HK.out.mono ?_
 rintro e w1 ⟨hb1,(⟨hn1,rfl⟩|⟨e1,hs1,rfl,g0,g1,g2⟩)⟩
 .have HN:=Lib.hid hn1
  clear hn1
  go_wp2_with fail
  go_ret
  exact ⟨yV (by rw [HN.out];rfl),HB0.out.trans (hb1.mono (by simp<;>omega))⟩
 .have HN:=Lib.hid hs1
  clear hs1;have g3:=(hb1.cell (p:=⟨w.heap.size,0,none⟩) (by simp<;>omega)).trans N0.out
  go_wp2_with fail
  go_ret
  exact ⟨yV (by rw [HN.out];exact beq_someP e1 ks.length),HB0.out.trans (hb1.mono (by simp<;>omega))⟩
end
section
inductive Arb(α:Type) where
 | mk (a:α) (kids:List (Arb α))
namespace Arb
variable {α N:Type}
def a:Arb α->α|.mk a _=>a
def kids:Arb α->List (Arb α)|.mk _ k=>k
theorem eta(t:Arb α):t=.mk t.a t.kids:=by cases t;rfl
mutual
def size:Arb α->Nat|.mk _ l=>1+sizeL l
def sizeL:List (Arb α)->Nat|[]=>0|t::l=>size t+sizeL l
end
def idxs:Nat->List (Arb α)->List Int
 | _,[]=>[]
 | b,t::l=>(b:Int)::idxs (b+t.size) l
mutual
def lay(f:α->List Int->N):Nat->Arb α->List N
 | b,.mk a l=>f a (idxs (b+1) l)::layL f (b+1) l
def layL(f:α->List Int->N):Nat->List (Arb α)->List N
 | _,[]=>[]
 | b,t::l=>lay f b t++layL f (b+t.size) l
end
theorem ind{P:Arb α->Prop}(h:∀ a l,(∀ x∈l,P x)->P (.mk a l)):∀ t,P t:=fun t=>
 Arb.rec (motive_1:=P) (motive_2:=fun l=>∀ x∈l,P x) (fun a l ih=>h a l ih) (by simp) (fun t l h1 h2=>by simpa using ⟨h1,h2⟩) t
theorem size_mk(x:α)(l:List (Arb α)):(Arb.mk x l).size=1+sizeL l:=rfl
theorem sizeL_nil:sizeL ([]:List (Arb α))=0:=rfl
theorem sizeL_cons(t:Arb α)(l:List (Arb α)):sizeL (t::l)=t.size+sizeL l:=rfl
theorem size_pos(t:Arb α):0<t.size:=by cases t;rw [size_mk];omega
theorem sizeL_app(l m:List (Arb α)):sizeL (l++m)=sizeL l+sizeL m:=by
 induction l with
 | nil=>simp [sizeL_nil]
 | cons t l ih=>rw [List.cons_append,sizeL_cons,sizeL_cons,ih];omega
theorem sizeL_len(l:List (Arb α)):l.length<=sizeL l:=by
 induction l with
 | nil=>exact Nat.le_refl _
 | cons t l ih=>have:=size_pos t;rw [sizeL_cons,List.length_cons];omega
theorem size_mem{x:Arb α}{l:List (Arb α)}(h:x∈l):x.size<=sizeL l:=by
 induction l with
 | nil=>cases h
 | cons t l ih=>
  rw [sizeL_cons];rcases List.mem_cons.1 h with rfl|h
  .omega
  .have:=ih h;omega
theorem size_lt{x:Arb α}{a:α}{l:List (Arb α)}(h:x∈l):x.size<(Arb.mk a l).size:=by have:=size_mem h;rw [size_mk];omega
theorem size_lt2{x:Arb α}{a b:α}{l r:List (Arb α)}(h:x∈r)(h2:Arb.mk b r∈l):x.size<(Arb.mk a l).size:=Nat.lt_trans (size_lt h) (size_lt h2)
theorem indS{P:Arb α->Prop}(h:∀ t,(∀ x:Arb α,x.size<t.size->P x)->P t)(t:Arb α):P t:=by
 have:∀ n,∀ t:Arb α,t.size<=n->P t:=by
  intro n
  induction n with
  | zero=>intro t ht;have:=size_pos t;omega
  | succ n ih=>intro t ht;exact h t fun x hx=>ih x (by omega)
 exact this t.size t (Nat.le_refl _)
theorem idxs_len(b:Nat)(l:List (Arb α)):(idxs b l).length=l.length:=by
 induction l generalizing b with
 | nil=>rfl
 | cons t l ih=>rw [idxs,List.length_cons,List.length_cons,ih]
theorem idxs_at(b:Nat)(l:List (Arb α))(i:Nat)(h:i<l.length):(idxs b l)[i]'(by rw [idxs_len];exact h)=((b+sizeL (l.take i):Nat):Int):=by
 induction l generalizing b i with
 | nil=>simp at h
 | cons t l ih=>
  cases i with
  | zero=>simp [idxs,sizeL_nil]
  | succ i=>
   have:=ih (b+t.size) i (by simpa using h)
   simp only [idxs,List.getElem_cons_succ,List.take_succ_cons,sizeL_cons];rw [this];congr 1;omega
theorem idxs_app(b:Nat)(l m:List (Arb α)):idxs b (l++m)=idxs b l++idxs (b+sizeL l) m:=by
 induction l generalizing b with
 | nil=>simp [idxs,sizeL_nil]
 | cons t l ih=>rw [List.cons_append,idxs,idxs,ih,sizeL_cons,List.cons_append,Nat.add_assoc]
variable {f:α->List Int->N}
theorem lay_mk(b:Nat)(x:α)(l:List (Arb α)):lay f b (.mk x l)=f x (idxs (b+1) l)::layL f (b+1) l:=rfl
theorem layL_nil(b:Nat):layL f b []=[]:=rfl
theorem layL_cons(b:Nat)(t:Arb α)(l:List (Arb α)):layL f b (t::l)=lay f b t++layL f (b+t.size) l:=rfl
theorem layL_app(b:Nat)(l m:List (Arb α)):layL f b (l++m)=layL f b l++layL f (b+sizeL l) m:=by
 induction l generalizing b with
 | nil=>simp [layL_nil,sizeL_nil]
 | cons t l ih=>rw [List.cons_append,layL_cons,layL_cons,ih,sizeL_cons,List.append_assoc,Nat.add_assoc]
theorem layL_len_of{l:List (Arb α)}(h:∀ x∈l,∀ b,(lay f b x).length=x.size)(b:Nat):(layL f b l).length=sizeL l:=by
 induction l generalizing b with
 | nil=>rfl
 | cons t l ih=>rw [layL_cons,List.length_append,sizeL_cons,h t (by simp),ih (fun x hx=>h x (by simp [hx]))]
theorem lay_len:∀ (t:Arb α) (b:Nat),(lay f b t).length=t.size:=fun t=>by
 induction t using ind with
 | h a l ih=>intro b;rw [lay_mk,List.length_cons,layL_len_of ih,size_mk];omega
theorem layL_len(b:Nat)(l:List (Arb α)):(layL f b l).length=sizeL l:=layL_len_of (fun x _ b=>lay_len x b) b
def At(f:α->List Int->N)(xs:List N)(m:Nat)(t:Arb α):Prop:=∃ post,xs.drop m=lay f m t++post
def AtL(f:α->List Int->N)(xs:List N)(m:Nat)(l:List (Arb α)):Prop:=∃ post,xs.drop m=layL f m l++post
theorem At.bd{xs:List N}{m:Nat}{t:Arb α}(h:At f xs m t):m+t.size<=xs.length:=by
 obtain ⟨p,h⟩:=h;have:=congrArg List.length h;rw [List.length_drop,List.length_append,lay_len] at this
 have:=size_pos t;omega
theorem At.root{xs:List N}{m:Nat}{x:α}{l:List (Arb α)}(h:At f xs m (.mk x l)):xs[m]?=some (f x (idxs (m+1) l)):=by
 obtain ⟨p,h⟩:=h;rw [lay_mk,List.cons_append] at h
 have:(xs.drop m)[0]?=some (f x (idxs (m+1) l)):=by rw [h];rfl
 rw [List.getElem?_drop,Nat.add_zero] at this
 exact this
theorem At.lt{xs:List N}{m:Nat}{t:Arb α}(h:At f xs m t):m<xs.length:=by
 have:=h.bd;have:=size_pos t;omega
theorem At.kids{xs:List N}{m:Nat}{x:α}{l:List (Arb α)}(h:At f xs m (.mk x l)):AtL f xs (m+1) l:=by
 obtain ⟨p,h⟩:=h;rw [lay_mk,List.cons_append] at h
 refine ⟨p,?_⟩;have:=congrArg (List.drop 1) h;rw [List.drop_drop,List.drop_succ_cons,List.drop_zero] at this
 exact this
theorem AtL.head{xs:List N}{m:Nat}{t:Arb α}{l:List (Arb α)}(h:AtL f xs m (t::l)):At f xs m t:=by
 obtain ⟨p,h⟩:=h;rw [layL_cons,List.append_assoc] at h
 exact ⟨_,h⟩
theorem AtL.tail{xs:List N}{m:Nat}{t:Arb α}{l:List (Arb α)}(h:AtL f xs m (t::l)):AtL f xs (m+t.size) l:=by
 obtain ⟨p,h⟩:=h;rw [layL_cons,List.append_assoc] at h
 refine ⟨p,?_⟩;have:=congrArg (List.drop t.size) h;rw [List.drop_drop,<- lay_len (f:=f) t m,List.drop_left] at this
 rw [lay_len] at this
 exact this
theorem AtL.at{xs:List N}:∀ {l:List (Arb α)} {m:Nat} (i:Nat) (hi:i<l.length),AtL f xs m l->At f xs (m+sizeL (l.take i)) l[i]
 | t::l,m,0,hi,h=>by simpa [sizeL_nil] using h.head
 | t::l,m,i+1,hi,h=>by
  have:=AtL.at i (by simpa using hi) h.tail
  simpa [sizeL_cons,Nat.add_assoc] using this
theorem At.zero(t:Arb α):At f (lay f 0 t) 0 t:=⟨[],by simp⟩
theorem At.whole{xs:List N}{t:Arb α}(h:At f xs 0 t)(hl:t.size=xs.length):xs=lay f 0 t:=by
 obtain ⟨p,h⟩:=h;rw [List.drop_zero] at h
 have h2:=congrArg List.length h;rw [List.length_append,lay_len] at h2
 have:p=[]:=List.eq_nil_of_length_eq_zero (by omega)
 rw [h,this,List.append_nil]
variable {ks:N->List Int} {inf:N->α}
theorem grow_ex(hf:∀ x,f (inf x) (ks x)=x)(xs:List N):∀ (n m e:Nat),pEnd (xs.map ks) n m=some e->∃ t:Arb α,t.size=e - m/\At f xs m t
 | 0,m,e,h=>by cases h
 | n+1,m,e,h=>by
  have hm:m<xs.length:=by
   rcases Nat.lt_or_ge m xs.length with q|q
   .exact q
   .rw [Ye _ _ _ (by simpa using q)] at h;cases h
  rw [YR _ _ _ (by simpa using hm),List.getElem_map] at h
  have key:∀ (l:List Int) (m e:Nat),m<=xs.length->zV (pEnd (xs.map ks) n) l m=some e->∃ ts:List (Arb α),sizeL ts=e - m/\AtL f xs m ts/\idxs m ts=l/\m<=e/\e<=xs.length:=by
   intro l
   induction l with
   | nil=>
    intro m e hm h;have h':some m=some e:=h;injection h' with h'
    subst h';exact ⟨[],by simp [sizeL_nil],⟨xs.drop m,by simp [layL_nil]⟩,rfl,Nat.le_refl _,hm⟩
   | cons k l ih=>
    intro m e hm h;rw [zV] at h
    split at h
    .rename_i hk
     cases hc:pEnd (xs.map ks) n m with
     | none=>rw [hc] at h;cases h
     | some e1=>
      rw [hc] at h
      have hb:=YS _ _ _ _ hc;rw [List.length_map] at hb
      obtain ⟨t,h1,h2⟩:=grow_ex hf xs n m e1 hc;obtain ⟨ts,h3,h4,h5,h6,h7⟩:=ih e1 e hb.2 h;have he:e1=m+t.size:=by omega
      refine ⟨t::ts,by rw [sizeL_cons];omega,?_,by rw [idxs,hk,<- he,h5],by omega,h7⟩
      obtain ⟨p1,q1⟩:=h2;obtain ⟨p2,q2⟩:=h4;refine ⟨p2,?_⟩;have:=congrArg (List.drop t.size) q1;rw [List.drop_drop,<- he,<- lay_len (f:=f) t m,List.drop_left,q2] at this
      rw [layL_cons,List.append_assoc,<- he,this,q1]
    .cases h
  obtain ⟨ts,h3,h4,h5,h6,h7⟩:=key _ (m+1) e (by omega) h
  refine ⟨.mk (inf xs[m]) ts,by rw [size_mk];omega,?_⟩
  obtain ⟨p,q⟩:=h4;refine ⟨p,?_⟩;rw [lay_mk,List.drop_eq_getElem_cons hm,q,h5,hf];rfl
theorem grow_all(hf:∀ x,f (inf x) (ks x)=x){xs:List N}(h:yi (xs.map ks)=true):∃ t:Arb α,xs=lay f 0 t:=by
 unfold yi at h
 have he:pEnd (xs.map ks) (xs.map ks).length 0=some (xs.map ks).length:=by simpa using h
 obtain ⟨t,h1,h2⟩:=grow_ex hf xs _ _ _ he;exact ⟨t,h2.whole (by rw [List.length_map] at h1;omega)⟩
inductive All(P:α->List (Arb α)->Prop):Arb α->Prop where
 | mk {x:α} {l:List (Arb α)}:P x l->(∀ t∈l,All P t)->All P (.mk x l)
theorem All.root{P:α->List (Arb α)->Prop}{x:α}{l:List (Arb α)}(h:All P (.mk x l)):P x l:=by cases h;assumption
theorem All.kid{P:α->List (Arb α)->Prop}{x:α}{l:List (Arb α)}(h:All P (.mk x l)):∀ t∈l,All P t:=by cases h;assumption
theorem all_of{P:α->List (Arb α)->Prop}{xs:List N}:∀ (t:Arb α) (m:Nat),At f xs m t->(∀ (j:Nat) (x:α) (l:List (Arb α)),At f xs j (.mk x l)->P x l)->All P t:=fun t=>by
 induction t using ind with
 | h a l ih=>
  intro m h hp;refine .mk (hp m a l h) fun t ht=>?_
  obtain ⟨i,hi,rfl⟩:=List.getElem_of_mem ht;exact ih _ ht _ (h.kids.at i hi) hp
end Arb
end
section
attribute [local go_sem] List.length_set List.set_set
open Go.RowKit Go.ChangeShapes Go.WideShapes
structure DPNode where
 kind:Int
 n:Int
 s:ByteArray
 kids:List Int
def DPNode.enc(x:DPNode):List D:=[.s (.int .i64 x.kind),.s (.int .i64 x.n),.s (.string x.s),.sl 1 (x.kids.map iE)]
theorem DPNode.enc_eq(x:DPNode):x.enc=[.s (.int .i64 x.kind),.s (.int .i64 x.n),.s (.string x.s),.sl 1 (x.kids.map iE)]:=rfl
def DPNode.own(x:DPNode):List D:=[.s (.int .i64 x.kind),.s (.int .i64 x.n),.s (.string x.s),.osl 3 1 (x.kids.map iE)]
theorem DPNode.own_eq(x:DPNode):x.own=[.s (.int .i64 x.kind),.s (.int .i64 x.n),.s (.string x.s),.osl 3 1 (x.kids.map iE)]:=rfl
theorem DPNode.frz_eq(x:DPNode):frzL x.own=x.enc:=by
 simp only [DPNode.own_eq,DPNode.enc_eq,frzL,frz,yh U4]
def DPNode.ok(x:DPNode):Prop:=I64 x.kind/\I64 x.n/\x.s.size<=maxLen/\(∀ y∈x.kids,I64 y)
def DPNode.sm(x:DPNode):Prop:=x.s.size<=1048576/\smS (fun _:Int=>True) x.kids
def DPNode.cnt(x:DPNode):Nat:=1+1+1+cnts (fun _:Int=>1) x.kids
theorem DPNode.cnt_eq(x:DPNode):x.cnt=1+1+1+cnts (fun _:Int=>1) x.kids:=rfl
theorem DPNode.pure(x:DPNode):∀ d∈x.own,Pure d:=by
 simp only [DPNode.own_eq,List.forall_mem_cons,List.not_mem_nil,false_imp_iff,implies_true,and_true];exact ⟨.s _,.s _,.s _,yI Vq _ _ _⟩
theorem DPNode.pureS(e k:Nat)(xs:List DPNode):Pure (.osl e k (xs.map DPNode.own))=True:=eq_true (yI DPNode.pure e k xs)
attribute [go_sem] DPNode.pureS
theorem DPNode.frzS(xs:List DPNode):xU (xs.map DPNode.own)=xs.map DPNode.enc:=yh DPNode.frz_eq xs
attribute [go_sem] DPNode.frzS
end
section
attribute [local go_sem] List.length_set List.set_set
open Go.RowKit Go.ChangeShapes Go.WideShapes
structure MPat where
 nodes:List DPNode
def MPat.enc(x:MPat):List D:=[.sl 4 (x.nodes.map DPNode.enc)]
theorem MPat.enc_eq(x:MPat):x.enc=[.sl 4 (x.nodes.map DPNode.enc)]:=rfl
def MPat.own(x:MPat):List D:=[.osl 126 4 (x.nodes.map DPNode.own)]
theorem MPat.own_eq(x:MPat):x.own=[.osl 126 4 (x.nodes.map DPNode.own)]:=rfl
theorem MPat.frz_eq(x:MPat):frzL x.own=x.enc:=by
 simp only [MPat.own_eq,MPat.enc_eq,frzL,frz,yh DPNode.frz_eq]
def MPat.ok(x:MPat):Prop:=(∀ y∈x.nodes,y.ok)
def MPat.sm(x:MPat):Prop:=smS DPNode.sm x.nodes
def MPat.cnt(x:MPat):Nat:=cnts DPNode.cnt x.nodes
theorem MPat.cnt_eq(x:MPat):x.cnt=cnts DPNode.cnt x.nodes:=rfl
theorem MPat.pure(x:MPat):∀ d∈x.own,Pure d:=by
 simp only [MPat.own_eq,List.forall_mem_cons,List.not_mem_nil,false_imp_iff,implies_true,and_true];exact yI DPNode.pure _ _ _
theorem MPat.pureS(e k:Nat)(xs:List MPat):Pure (.osl e k (xs.map MPat.own))=True:=eq_true (yI MPat.pure e k xs)
attribute [go_sem] MPat.pureS
theorem MPat.frzS(xs:List MPat):xU (xs.map MPat.own)=xs.map MPat.enc:=yh MPat.frz_eq xs
attribute [go_sem] MPat.frzS
end
section
open Go.RowKit
def yv(s:ByteArray)(k:Nat)(pair:Bool):Bool:=
 if s.toList==[116,114,117,101]||s.toList==[102,97,108,115,101]||s.toList==[91,93] then (k:Int)==0
 else if s.toList==[58,58] then ((k:Int)==1)&&pair
 else conM s.data.toList&&decide ((k:Int)<=1)
abbrev zw(xs:List DPNode):List (List Int):=xs.map fun x=>x.kids
theorem Yv(xs:List DPNode):(zw xs).length=xs.length:=List.length_map ..
theorem kidsP_at(xs:List DPNode)(k:Nat)(h:k<xs.length):(zw xs)[k]'(by simpa using h)=xs[k].kids:=by simp
def XN(xs:List DPNode)(l:List Int):Bool:=match l with
 | [k]=>decide (0<=k)&&decide (k<xs.length)&&(match xs[k.toNat]? with|some x=>x.kind==5|none=>false)
 | _=>false
theorem xaw(xs:List DPNode)(l:List Int)(h:¬ l.length=1):XN xs l=false:=by
 unfold XN;split
 .simp at h
 .rfl
theorem xav(xs:List DPNode)(l:List Int)(h:l.length=1)(k:Nat)(hk:k<xs.length)(hl:l[0]'(by omega)=(k:Int)):XN xs l=(xs[k].kind==5):=by
 match l,h with
 | [z],_=>
  have hz:z=(k:Int):=hl;subst hz;have e:XN xs [(k:Int)]=(decide (0<=(k:Int))&&decide ((k:Int)<xs.length)&&(match xs[(k:Int).toNat]? with|some x=>x.kind==5|none=>false)):=rfl
  rw [e,decide_eq_true (by omega),decide_eq_true (by omega),Int.toNat_natCast,List.getElem?_eq_getElem hk]
  rfl
theorem Qn(xs:List DPNode)(l:List Int)(h:l.length=1)(hl:l[0]'(by omega)<0\/(xs.length:Int)<=l[0]'(by omega)):XN xs l=false:=by
 match l,h with
 | [z],_=>
  have hz:z<0\/(xs.length:Int)<=z:=hl;have e:XN xs [z]=(decide (0<=z)&&decide (z<xs.length)&&(match xs[z.toNat]? with|some x=>x.kind==5|none=>false)):=rfl
  rw [e];rcases hz with hz|hz
  .rw [decide_eq_false (by omega)];rfl
  .rw [decide_eq_false (p:=z<(xs.length:Int)) (by omega),Bool.and_false];rfl
def zL(p:Bool)(x:DPNode):Bool:=
 if x.kind=3 then ((x.kids.length:Int)==0)&&x.s.toList.isEmpty&&(decide (-4611686018427387903<=x.n)&&decide (x.n<=4611686018427387903))
 else if x.kind=2 then ((x.kids.length:Int)==0)&&(x.n==0)&&yM x.s
 else if x.kind=6\/x.kind=1 then ((x.kids.length:Int)==0)&&(x.n==0)&&x.s.toList.isEmpty
 else if x.kind=5 then ((x.kids.length:Int)==2)&&(x.n==0)&&x.s.toList.isEmpty
 else if x.kind=4 then (x.n==0)&&yv x.s x.kids.length p
 else false
def wA(xs:List DPNode)(x:DPNode):Bool:=zL (XN xs x.kids) x
def dupB(y x:DPNode):Bool:=(x.kind==2)&&((y.kind==2)&&decide (y.s=x.s))
def y4(xs:List DPNode)(i:Nat)(h:i<xs.length):Bool:=wA xs xs[i]&&(xs.take i).all fun y=>!dupB y xs[i]
def patM(xs:List DPNode):Bool:=decide (1<=xs.length)&&decide (xs.length<=600)&&(List.finRange xs.length).all (fun i=>y4 xs i.1 i.2)&&yi (zw xs)
theorem Vo{n:Nat}{p:Fin n->Bool}:(List.finRange n).all p=true ↔ ∀ i,p i=true:=by simp [List.all_eq_true]
theorem Zh{xs:List DPNode}{k:Nat}(h:k<xs.length)(hb:y4 xs k h=false):patM xs=false:=by
 have:(List.finRange xs.length).all (fun i=>y4 xs i.1 i.2)=false:=by
  rw [List.all_eq_false];exact ⟨⟨k,h⟩,List.mem_finRange _,by simp [hb]⟩
 unfold patM;rw [this,Bool.and_false,Bool.false_and]
theorem WP{xs:List DPNode}{k:Nat}(h:k<xs.length)(hb:wA xs xs[k]=false):y4 xs k h=false:=by unfold y4;rw [hb];rfl
theorem WQ{xs:List DPNode}{k j:Nat}(h:k<xs.length)(hj:j<k)(hb:dupB (xs[j]'(by omega)) xs[k]=true):y4 xs k h=false:=by
 unfold y4;have:((xs.take k).all fun y=>!dupB y xs[k])=false:=by
  rw [List.all_eq_false];refine ⟨xs[j]'(by omega),?_,by rw [hb];simp⟩
  rw [List.mem_take_iff_getElem];exact ⟨j,by omega,rfl⟩
 rw [this,Bool.and_false]
theorem Qc{xs:List DPNode}{k:Nat}(h:k<xs.length)(hb:wA xs xs[k]=true)(hd:∀ j (hj:j<k),dupB (xs[j]'(by omega)) xs[k]=false):y4 xs k h=true:=by
 unfold y4;rw [hb,Bool.true_and,List.all_eq_true];intro y hy;rw [List.mem_take_iff_getElem] at hy
 obtain ⟨j,hj,rfl⟩:=hy;rw [hd j (by omega)];rfl
theorem ZS{xs:List DPNode}{k:Nat}(h:∀ j (hj:j<xs.length),j<k->y4 xs j hj=true)(hlt:k<xs.length)(hk:y4 xs k hlt=true):∀ j (hj:j<xs.length),j<k+1->y4 xs j hj=true:=fun j hj hjk=>by
 rcases Nat.lt_or_ge j k with q|q
 .exact h j hj q
 .obtain rfl:j=k:=by omega
  exact hk
theorem Qm(ks:List (List Int))(n:Nat):∀ (l:List Int) (m e:Nat),zV (pEnd ks n) l m=some e->∀ z∈l,∃ q:Nat,z=(q:Int)/\q<ks.length
 | [],m,e,h,z,hz=>by cases hz
 | k::l,m,e,h,z,hz=>by
  rw [vM] at h
  cases hc:yN ks n k m with
  | none=>rw [hc] at h;cases h
  | some e1=>
   rw [hc] at h
   have hb:=UC hc;rcases List.mem_cons.1 hz with rfl|hz
   .exact ⟨m,hb.1,by omega⟩
   .exact Qm ks n l e1 e h z hz
theorem Zg(ks:List (List Int)):∀ (n m e:Nat),pEnd ks n m=some e->∀ k (h:k<ks.length),m<=k->k<e->∀ z∈ks[k],∃ q:Nat,z=(q:Int)/\q<ks.length
 | 0,m,e,h=>by cases h
 | n+1,m,e,h=>by
  intro k hk h1 h2 z hz;have hm:m<ks.length:=by
   rcases Nat.lt_or_ge m ks.length with q|q
   .exact q
   .rw [Ye _ _ _ q] at h;cases h
  rw [YR _ _ _ hm] at h
  by_cases hkm:k=m
  .subst hkm
   exact Qm ks n _ _ _ h z hz
  .have key:∀ (l:List Int) (m e:Nat),zV (pEnd ks n) l m=some e->m<=k->k<e->∃ q:Nat,z=(q:Int)/\q<ks.length:=by
    intro l
    induction l with
    | nil=>
     intro m e h a b;have h':some m=some e:=h;injection h' with h';omega
    | cons k0 l ih=>
     intro m e h a b;rw [vM] at h
     cases hc:yN ks n k0 m with
     | none=>rw [hc] at h;cases h
     | some e1=>
      rw [hc] at h
      have hb:=UC hc
      by_cases hke:k<e1
      .unfold yN at hc
       rw [if_pos hb.1] at hc
       exact Zg ks n m e1 hc k hk a hke z hz
      .exact ih e1 e h (by omega) b
   exact key _ _ _ h (by omega) h2
theorem order_inP{xs:List DPNode}(h:yi (zw xs)=true)(k:Nat)(hk:k<xs.length)(h1:xs[k].kids.length=1):∃ q:Nat,xs[k].kids[0]'(by omega)=(q:Int)/\q<xs.length:=by
 unfold yi at h
 have he:pEnd (zw xs) (zw xs).length 0=some (zw xs).length:=by simpa using h
 have:=Zg (zw xs) _ _ _ he k (by rw [Yv];exact hk) (Nat.zero_le _) (by rw [Yv];exact hk) (xs[k].kids[0]'(by omega)) (by rw [kidsP_at xs k hk];exact List.getElem_mem _)
 rw [Yv] at this
 exact this
def NamesAt(xs:List DPNode)(k:Nat)(ns:List ByteArray):Prop:=ns.length<=k/\∀ s,s∈ns ↔ ∃ j,∃ h:j<xs.length,j<k/\xs[j].kind=2/\xs[j].s=s
theorem NamesAt.zero(xs:List DPNode):NamesAt xs 0 []:=⟨Nat.le_refl _,fun s=>⟨fun h=>(by cases h),fun ⟨j,_,hj,_⟩=>(by omega)⟩⟩
theorem NamesAt.skip{xs:List DPNode}{k:Nat}{ns:List ByteArray}(h:NamesAt xs k ns)(hk:k<xs.length)(h2:xs[k].kind≠2):NamesAt xs (k+1) ns:=by
 refine ⟨by have:=h.1;omega,fun s=>?_⟩
 rw [h.2 s]
 constructor
 .rintro ⟨j,hj,a,b⟩
  exact ⟨j,hj,by omega,b⟩
 .rintro ⟨j,hj,a,b,c⟩
  refine ⟨j,hj,?_,b,c⟩;rcases Nat.lt_or_ge j k with q|q
  .exact q
  .obtain rfl:j=k:=by omega
   exact absurd b h2
theorem NamesAt.add{xs:List DPNode}{k:Nat}{ns:List ByteArray}(h:NamesAt xs k ns)(hk:k<xs.length)(h2:xs[k].kind=2):NamesAt xs (k+1) (ns++[xs[k].s]):=by
 refine ⟨by have:=h.1;simp;omega,fun s=>?_⟩
 rw [List.mem_append,h.2 s,List.mem_singleton]
 constructor
 .rintro (⟨j,hj,a,b⟩|rfl)
  .exact ⟨j,hj,by omega,b⟩
  .exact ⟨k,hk,by omega,h2,rfl⟩
 .rintro ⟨j,hj,a,b,c⟩
  rcases Nat.lt_or_ge j k with q|q
  .exact .inl ⟨j,hj,q,b,c⟩
  .obtain rfl:j=k:=by omega
   exact .inr c.symm
theorem NamesAt.dup{xs:List DPNode}{k:Nat}{ns:List ByteArray}(h:NamesAt xs k ns)(hk:k<xs.length)(h2:xs[k].kind=2)(hi:inL xs[k].s ns=true):y4 xs k hk=false:=by
 obtain ⟨j,hj,a,b,c⟩:=(h.2 _).1 ((XU _ _).1 hi);exact WQ hk a (by unfold dupB;rw [h2,b,decide_eq_true c];rfl)
theorem NamesAt.none{xs:List DPNode}{k:Nat}{ns:List ByteArray}(h:NamesAt xs k ns)(hk:k<xs.length)(hp:wA xs xs[k]=true)(hi:xs[k].kind=2->inL xs[k].s ns=false):y4 xs k hk=true:=by
 refine Qc hk hp fun j hj=>?_
 unfold dupB
 by_cases h2:xs[k].kind=2
 .have hn:=hi h2
  by_cases hj2:(xs[j]'(by omega)).kind=2
  .by_cases hs:(xs[j]'(by omega)).s=xs[k].s
   .have:inL xs[k].s ns=true:=(XU _ _).2 ((h.2 _).2 ⟨j,by omega,hj,hj2,hs⟩)
    rw [this] at hn;cases hn
   .rw [decide_eq_false hs];simp
  .simp [hj2]
 .simp [h2]
theorem RepL.inv{S:Nat->Prop}{up:Nat->Option Pos}{W:World}{d:D}{ds:List D}{us:List Value}(h:RepL S up W (d::ds) us):∃ u t,us=u::t/\Rep S up W none d u/\RepL S up W ds t:=by
 obtain ⟨h1,h2⟩:=h
 match us,h1 with
 | u::t,h1=>exact ⟨u,t,rfl,h2 0 d u rfl rfl,by simpa using h1,fun j d' u' q1 q2=>h2 (j+1) d' u' (by simpa using q1) (by simpa using q2)⟩
theorem two_args{P:Nat->D->Value->Prop}{b c:D}{vs:List Value}(hl:vs.length=[b,c].length)(h:∀ (j:Nat) (x:D) (u:Value),[b,c][j]?=some x->vs[j]?=some u->P j x u):∃ v u,vs=[v,u]/\P 0 b v/\P 1 c u:=by
 match vs,hl with
 | [v,u],_=>exact ⟨v,u,rfl,h 0 b v rfl rfl,h 1 c u rfl rfl⟩
theorem SlOf.mapR{α β:Type}{k:Nat}{R:Hp->List Value->α->Prop}{R':Hp->List Value->β->Prop}{h:Hp}{v:Value}{xs:List α}(f:α->β)(hR:∀ r x,R h r x->R' h r (f x))(q:SlOf k R h v xs):SlOf k R' h v (xs.map f):=by
 obtain ⟨a,c,e,h1,h2,r⟩:=q;refine ⟨a,c,by simpa using e,by simpa using h1,h2,r.imp (fun z=>by simp [z]) ?_⟩
 rintro ⟨b,off,ea,hc⟩
 refine ⟨b,off,ea,fun i hi=>?_⟩
 obtain ⟨r,r1,r2,r3⟩:=hc i (by simpa using hi)
 exact ⟨r,r1,r2,by simpa using hR _ _ r3⟩
theorem intS_of{S:Nat->Prop}{up:Nat->Option Pos}{W:World}{v:Value}{l:List Int}(h:Rep S up W none (.sl 1 (l.map iE)) v)(ho:∀ x∈l,I64 x):IntS (hp W) v l:=
 Rep.slOf (enc:=iE) (fun _ _=>rfl) (by decide) (fun r x hx hr=>by
  rw [x5] at hr
  obtain ⟨u0,t0,rfl,h0,hr⟩:=hr.inv;obtain rfl:t0=[]:=List.eq_nil_of_length_eq_zero (by have:=hr.1;simpa using this)
  obtain rfl:u0=.int .i64 x:=Rep.s_inv h0;exact ⟨rfl,ho x hx⟩) h
theorem Qe{α:Type}{enc:α->List D}{kids:α->List Int}{k c:Nat}(hk:0<k){S:Nat->Prop}{up:Nat->Option Pos}{W:World}{v:Value}{xs:List α}(hl:∀ x∈xs,(enc x).length=k)(hc:∀ x∈xs,(enc x)[c]?=some (.sl 1 ((kids x).map iE)))(h:Rep S up W none (.sl k (xs.map enc)) v)(ho:∀ x∈xs,∀ z∈kids x,I64 z):KidsAt k c (hp W) v (xs.map kids):=by
 refine SlOf.mapR (R:=fun h r (x:α)=>KidR k c h r (kids x)) kids (fun r x q=>q) ?_
 refine Rep.slOf (enc:=enc) hl hk (fun r x hx hr=>?_) h
 have h1:=hl x hx;have h2:=hc x hx;have hlt:c<r.length:=by rw [hr.1];exact (List.getElem?_eq_some_iff.1 h2).1
 exact ⟨by rw [hr.1,h1],r[c],List.getElem?_eq_getElem hlt,intS_of (hr.2 c _ _ h2 (List.getElem?_eq_getElem hlt)) (ho x hx)⟩
theorem pat_kids(w:World)(h:Hp)(hs:Sub h w)(v:Value)(ks:List (List Int))(hv:KidsAt 4 3 h v ks)(hl:ks.length<=1000000000)(Bd Od:Nat)(hB:w.cell? ⟨Bd,Od,none⟩=some v)(i:Nat)(hi:i<ks.length) :
  Calls Tryz.prog 106 #[.int .i64 i,.pointer (some ⟨Bd,Od,none⟩)] w fun e w'=>KidQ h w ks[i] e w':=by
 have HV:=Lib.hid hv;obtain ⟨a,c,rfl,hc1,hc2,-⟩:=hv;unfold maxLen at hc2
 obtain ⟨b,off,rfl,hcell⟩:=HV.out.cell hi;obtain ⟨v1,hrel,hcs⟩:=hcell i hi;have c3:=hcs w hs;have HR:=Lib.hid hrel;clear hcell hcs hrel
 go_enter Tryz.func106,Tryz.ntmps106
 go_wp2_with fail
 go_ret
 exact ⟨_,rfl,HR.out,(by repeat (first|with_reducible exact Below.refl _ _|with_reducible assumption|with_reducible refine Below.setCell ?_ ?_ _|with_reducible refine Below.alloc ?_ ?_ _|with_reducible refine Below.drew ?_|(with_reducible apply Xk;with_reducible assumption)|exact Nat.le_refl _|omega|(simp<;>omega)))⟩
theorem ent_of {f:FuncId} {fn:Func} {c:Code} (hf:Tryz.prog.funcs[f]?=some fn) (hname:(fn.name == "runtime.NumGoroutine")=false) (hb:fn.body=some c) (vs:Array Value) (w:World):(callFunc f vs).run Tryz.prog w=.ok (.enter f vs) w:=by
 have hname':¬ fn.name = "runtime.NumGoroutine" := by simpa using hname
 have hbn:¬ fn.body=none:=by rw [hb];simp
 simp [callFunc,hf,hname',hbn]
theorem VT(K:FuncId)(hEnt:∀ vs w,(callFunc K vs).run Tryz.prog w=.ok (.enter K vs) w)(ks:List (List Int))(row:List D)(hl:ks.length<=1000000000)(hks:∀ k∈ks,k.length<=1000000000)
  (hK:∀ (w:World) (S:Nat->Prop) (up:Nat->Option Pos) (v:Value),Rep S up w none (.pt row) v->∀ w1,Below w.heap.size w w1->∀ m (hm:m<ks.length),Calls Tryz.prog K #[.int .i64 m,v] w1 fun e w'=>KidQ (hp w) w1 ks[m] e w') :
  FT 95 [.s (.int .i64 ks.length),.fn K [.pt row]] (fun r _=>r=.s (.bool (yi ks))):=by
 refine FCon.ofBelow Tryz.func95 (by kernel_rfl) rfl (Rv:=(· = .bool (yi ks))) (fun v hv=>by subst hv;exact ⟨rfl,rfl⟩) rfl fun w S up vs h1 h2=>?_
 obtain ⟨v,u,rfl,hv,hu⟩:=two_args (P:=fun _ b u=>RB S up w b u) h1 h2
 obtain rfl:v=.int .i64 ks.length:=Rep.s_inv (show Rep S up w none (.s (.int .i64 ks.length)) v from hv);cases (show Rep S up w none (.fn K [.pt row]) u from hu) with
 | fn us hus=>
  have hp:=hus 0 _ rfl;have e:((List.range [D.pt row].length).map us).toArray=#[us 0]:=by simp
  rw [e];exact (xaq w ks hl (fun k h=>hks _ (List.getElem_mem h)) K (us 0) hEnt fun w1 hb m hm=>hK w S up _ hp w1 hb m hm).mono fun e w' ⟨q1,q2⟩=>⟨_,q1,rfl,q2⟩
theorem UO(xs:List DPNode)(ho:∀ x∈xs,x.ok)(hl:xs.length<=1000000000)(hks:∀ x∈xs,x.kids.length<=1000000000) :
  FT 95 [.s (.int .i64 xs.length),.fn 106 [.pt [.sl 4 (xs.map DPNode.enc)]]] (fun r _=>r=.s (.bool (yi (zw xs)))):=by
 have hlen:(xs.map DPNode.kids).length=xs.length:=List.length_map _;have:=VT 106 (ent_of Tryz.func106 rfl rfl) (xs.map DPNode.kids) [.sl 4 (xs.map DPNode.enc)] (by rw [hlen];exact hl) (fun k h=>by obtain ⟨x,hx,rfl⟩:=List.mem_map.1 h;exact hks x hx) fun w S up v hv w1 hb m hm=>by
  cases hv with
  | @pt _ _ b off ws hc hr=>
   have c1:=(hc 0 _ rfl).2;have hk:=Qe (enc:=DPNode.enc) (kids:=DPNode.kids) (k:=4) (c:=3) (by decide) (fun _ _=>rfl) (fun _ _=>rfl) (hr 0 _ rfl) (fun x hx=>(ho x hx).2.2.2)
   exact pat_kids w1 (hp w) ((Sub.self w).below hb) _ _ hk (by rw [hlen];exact hl) b off (wQ hb c1) m hm
 rw [hlen] at this
 exact this
theorem litTrue:(⟨#[116,114,117,101]⟩:ByteArray).toList=[116,114,117,101]:=by kernel_rfl
theorem xan:(⟨#[102,97,108,115,101]⟩:ByteArray).toList=[102,97,108,115,101]:=by kernel_rfl
theorem litNil:(⟨#[91,93]⟩:ByteArray).toList=[91,93]:=by kernel_rfl
theorem litCons:(⟨#[58,58]⟩:ByteArray).toList=[58,58]:=by kernel_rfl
theorem xy(s:ByteArray)(hs:s.size<=maxLen)(k:Nat)(p:Bool):FT 148 [.s (.string s),.s (.int .i64 k),.s (.bool p)] (fun r _=>r=.s (.bool (yv s k p))):=by
 refine FI PM Tryz.func148 Tryz.ntmps148 [] rfl rfl ?_
 (have hWf:=w4 @litTrue @xan @litNil @litCons;repeat' (first|refine zS ?_|refine zI ?_ ?_|refine zK (ud s hs) ?_|exact zF0|refine zD fun hb=>?_|exact zC|refine zT ?_|fail))
 all_goals exact sB (by grind [yv])
theorem yy(s:ByteArray)(hs:s.size<=maxLen)(k:Nat)(p:Bool):FT 113 [.s (.string s),.s (.int .i64 k),.s (.bool p)] (fun r _=>r=.s (.bool (yv s k p))):=by
 refine FI PM Tryz.func113 Tryz.ntmps113 [] rfl rfl ?_
 (have hWf:=w4 @litTrue @xan @litNil @litCons;repeat' (first|refine zS ?_|refine zI ?_ ?_|refine zK (yX s hs) ?_|exact zF0|refine zD fun hb=>?_|exact zC|refine zT ?_|fail))
 all_goals exact sB (by grind [yv])
theorem vy{p:Bool}{x:DPNode}(h:x.kind<1\/6<x.kind):zL p x=false:=by
 unfold zL;rw [if_neg (by omega),if_neg (by omega),if_neg (by omega),if_neg (by omega),if_neg (by omega)]
theorem patN_4(xs:List DPNode)(n:Int)(s:ByteArray)(kids:List Int)(hs:s.size<=maxLen)(hkl:kids.length<=1048576)(hin:∀ h1:kids.length=1,∃ k:Nat,kids[0]'(by omega)=(k:Int)/\k<xs.length):FT 107 [.ag [.sl 4 (xs.map DPNode.enc)],.ag (DPNode.mk 4 n s kids).enc] (fun r _=>r=.s (.bool (wA xs ⟨4,n,s,kids⟩))):=by
 have e:wA xs ⟨4,n,s,kids⟩=((n==0)&&yv s kids.length (XN xs kids)):=by unfold wA zL;simp
 rw [e]
 match kids,hkl,hin with
 | [],_,_=>
  refine FI PM Tryz.func107 Tryz.ntmps107 [(11,21,[],[],(lin [] [0,1,2,3,4,5,6,7,8,9,10,11,12,13,14,15,16,17,18,19,20]))] rfl rfl ?_
  (have hWf:=w1 @DPNode.enc_eq;repeat' (first|refine zS ?_|refine zI ?_ ?_|refine zK (xy s hs 0 false) ?_|exact zF0|refine zD fun hb=>?_|exact zC|refine zT ?_|fail))
  all_goals rfl
 | [z],_,hin=>
  obtain ⟨k,hz,hk⟩:=hin rfl;have hz:z=(k:Int):=hz;subst hz;rw [xav xs [(k:Int)] rfl k hk rfl];have hg:=xi DPNode.enc xs k hk;have he:=DPNode.enc_eq xs[k];refine FI PM Tryz.func107 Tryz.ntmps107 [(11,21,[],[],(lin [] [0,1,2,3,4,5,6,7,8,9,10,11,12,13,14,15,16,17,18,19,20]))] rfl rfl ?_
  (have hWf:=w4 @DPNode.enc_eq @hg @he @x5;repeat' (first|refine zS ?_|refine zI ?_ ?_|refine zK (xy s hs 1 (xs[k].kind==5)) ?_|exact zF0|refine zD fun hb=>?_|exact zC|refine zT ?_|fail))
 | a::b::l,_,_=>
  rw [xaw xs (a::b::l) (by simp)]
  have hl1:(((l.length+1+1:Nat):Int)==1)=false:=by simp;omega
  cases hn:(n==0)
  all_goals
   refine FI (PMr [11]) Tryz.func107 Tryz.ntmps107 [(11,21,[],[],(lin [] [0,1,2,3,4,5,6,7,8,9,10,11,12,13,14,15,16,17,18,19,20]))] rfl rfl ?_
   (have hWf:=w4 @DPNode.enc_eq @x5 @hl1 @hn;repeat' (first|refine zS ?_|refine zI ?_ ?_|refine zK (xy s hs (l.length+1+1) false) ?_|exact zF0|refine zD fun hb=>?_|exact zC|refine zT ?_|fail))
theorem xa3(xs:List DPNode)(x:DPNode)(hx:x.ok)(hkl:x.kids.length<=1048576)(hin:∀ h1:x.kids.length=1,∃ k:Nat,x.kids[0]'(by omega)=(k:Int)/\k<xs.length):FT 107 [.ag [.sl 4 (xs.map DPNode.enc)],.ag x.enc] (fun r _=>r=.s (.bool (wA xs x))):=by
 obtain ⟨kind,n,s,kids⟩:=x;obtain ⟨-,-,hs,-⟩:=hx;dsimp only at hkl hin hs
 by_cases hr:kind<1\/6<kind
 .rw [show wA xs ⟨kind,n,s,kids⟩=false from vy hr]
  have e1:(kind==1)=false:=by simp;omega
  have e2:(kind==2)=false:=by simp;omega
  have e3:(kind==3)=false:=by simp;omega
  have e4:(kind==4)=false:=by simp;omega
  have e5:(kind==5)=false:=by simp;omega
  have e6:(kind==6)=false:=by simp;omega
  refine FI PM Tryz.func107 Tryz.ntmps107 [(11,21,[],[],(lin [] [0,1,2,3,4,5,6,7,8,9,10,11,12,13,14,15,16,17,18,19,20]))] rfl rfl ?_
  (have hWf:=w7 @DPNode.enc_eq @e1 @e2 @e3 @e4 @e5 @e6;repeat' (first|refine zS ?_|refine zI ?_ ?_|exact zF0|refine zD fun hb=>?_|exact zC|refine zT ?_|fail))
 .by_cases h4:kind=4
  .subst h4
   exact patN_4 xs n s kids hs hkl hin
  .rcases (show kind=1\/kind=2\/kind=3\/kind=5\/kind=6 by omega) with rfl|rfl|rfl|rfl|rfl
   all_goals
    clear hin h4 hr;refine FI PM Tryz.func107 Tryz.ntmps107 [(11,21,[],[],(lin [] [0,1,2,3,4,5,6,7,8,9,10,11,12,13,14,15,16,17,18,19,20]))] rfl rfl ?_
    (have hWf:=w1 @DPNode.enc_eq;repeat' (first|refine zS ?_|refine zI ?_ ?_|refine zK (uq s hs) ?_|refine zK (xv n (-4611686018427387903) 4611686018427387903) ?_|exact zF0|refine zD fun hb=>?_|exact zC|refine zT ?_|fail))
    all_goals exact sB (by unfold wA zL;first|(simp_all;done)|grind)
theorem geB{a b:Int}(h:a<=b):decide (b ≥ a)=true:=decide_eq_true h
theorem l04P_N(xs:List DPNode)(hl:xs.length<=1048576)(kind n:Int)(s:ByteArray)(hs:s.size<=maxLen):FT 186 [.ag [.sl 4 (xs.map DPNode.enc)],.ag (DPNode.mk kind n s []).enc] (fun r _=>r=.s (.bool (zL false ⟨kind,n,s,[]⟩))):=by
 rcases (show (kind<1\/6<kind)\/kind=1\/kind=2\/kind=3\/kind=4\/kind=5\/kind=6 by omega) with hr|hin
 .have e1:(kind==1)=false:=by simp;omega
  have e2:(kind==2)=false:=by simp;omega
  have e3:(kind==3)=false:=by simp;omega
  have e4:(kind==4)=false:=by simp;omega
  have e5:(kind==5)=false:=by simp;omega
  have e6:(kind==6)=false:=by simp;omega
  rw [vy (by exact hr)]
  refine FI (PMr [1]) Tryz.func186 Tryz.ntmps186 [(1,28,[],[],(lin [] [0,1,2,3,4,5,6,7,8,9,10,11,12,13,14,15,16,17,18,19,20,21,22,23,24,25,26,27]))] rfl rfl ?_
  (have hWf:=w8 @DPNode.enc_eq @x5 @e1 @e2 @e3 @e4 @e5 @e6;repeat' (first|refine zS ?_|refine zI ?_ ?_|exact zF0|refine zD fun hb=>?_|exact zC|refine zT ?_|fail))
 .rcases hin with rfl|rfl|rfl|rfl|rfl|rfl
  all_goals
   refine FI (PMr [1]) Tryz.func186 Tryz.ntmps186 [(1,28,[],[],(lin [] [0,1,2,3,4,5,6,7,8,9,10,11,12,13,14,15,16,17,18,19,20,21,22,23,24,25,26,27]))] rfl rfl ?_
   (have hWf:=w2 @DPNode.enc_eq @x5;repeat' (first|refine zS ?_|refine zI ?_ ?_|((with_reducible apply xc);refine zG (yy s hs _ _) ?_)|((with_reducible apply xj);refine xg (yy s hs _ _) ?_)|refine zK (xz s hs) ?_|exact zF0|refine zD fun hb=>?_|exact zC|refine zT ?_|fail))
   all_goals exact sB (by unfold zL;first|(simp_all;done)|grind)
theorem l04P_B(xs:List DPNode)(hl:xs.length<=1048576)(kind n:Int)(s:ByteArray)(hs:s.size<=maxLen)(z:Int)(g1:decide (z ≥ 0)=false):FT 186 [.ag [.sl 4 (xs.map DPNode.enc)],.ag (DPNode.mk kind n s [z]).enc] (fun r _=>r=.s (.bool (zL false ⟨kind,n,s,[z]⟩))):=by
 rcases (show (kind<1\/6<kind)\/kind=1\/kind=2\/kind=3\/kind=4\/kind=5\/kind=6 by omega) with hr|hin
 .have e1:(kind==1)=false:=by simp;omega
  have e2:(kind==2)=false:=by simp;omega
  have e3:(kind==3)=false:=by simp;omega
  have e4:(kind==4)=false:=by simp;omega
  have e5:(kind==5)=false:=by simp;omega
  have e6:(kind==6)=false:=by simp;omega
  rw [vy (by exact hr)]
  refine FI (PMr [1]) Tryz.func186 Tryz.ntmps186 [(1,28,[],[],(lin [] [0,1,2,3,4,5,6,7,8,9,10,11,12,13,14,15,16,17,18,19,20,21,22,23,24,25,26,27]))] rfl rfl ?_
  (have hWf:=w9 @DPNode.enc_eq @x5 @g1 @e1 @e2 @e3 @e4 @e5 @e6;repeat' (first|refine zS ?_|refine zI ?_ ?_|exact zF0|refine zD fun hb=>?_|exact zC|refine zT ?_|fail))
 .rcases hin with rfl|rfl|rfl|rfl|rfl|rfl
  all_goals
   refine FI (PMr [1]) Tryz.func186 Tryz.ntmps186 [(1,28,[],[],(lin [] [0,1,2,3,4,5,6,7,8,9,10,11,12,13,14,15,16,17,18,19,20,21,22,23,24,25,26,27]))] rfl rfl ?_
   (have hWf:=w3 @DPNode.enc_eq @x5 @g1;repeat' (first|refine zS ?_|refine zI ?_ ?_|((with_reducible apply xc);refine zG (yy s hs _ _) ?_)|((with_reducible apply xj);refine xg (yy s hs _ _) ?_)|refine zK (xz s hs) ?_|exact zF0|refine zD fun hb=>?_|exact zC|refine zT ?_|fail))
   all_goals exact sB (by unfold zL;first|(simp_all;done)|grind)
theorem l04P_O(xs:List DPNode)(hl:xs.length<=1048576)(kind n:Int)(s:ByteArray)(hs:s.size<=maxLen)(z:Int)(g1:decide (z ≥ 0)=true)(g2:decide (z<(xs.length:Int))=false):FT 186 [.ag [.sl 4 (xs.map DPNode.enc)],.ag (DPNode.mk kind n s [z]).enc] (fun r _=>r=.s (.bool (zL false ⟨kind,n,s,[z]⟩))):=by
 rcases (show (kind<1\/6<kind)\/kind=1\/kind=2\/kind=3\/kind=4\/kind=5\/kind=6 by omega) with hr|hin
 .have e1:(kind==1)=false:=by simp;omega
  have e2:(kind==2)=false:=by simp;omega
  have e3:(kind==3)=false:=by simp;omega
  have e4:(kind==4)=false:=by simp;omega
  have e5:(kind==5)=false:=by simp;omega
  have e6:(kind==6)=false:=by simp;omega
  rw [vy (by exact hr)]
  refine FI (PMr [1]) Tryz.func186 Tryz.ntmps186 [(1,28,[],[],(lin [] [0,1,2,3,4,5,6,7,8,9,10,11,12,13,14,15,16,17,18,19,20,21,22,23,24,25,26,27]))] rfl rfl ?_
  (have hWf:=w10 @DPNode.enc_eq @x5 @g1 @g2 @e1 @e2 @e3 @e4 @e5 @e6;repeat' (first|refine zS ?_|refine zI ?_ ?_|exact zF0|refine zD fun hb=>?_|exact zC|refine zT ?_|fail))
 .rcases hin with rfl|rfl|rfl|rfl|rfl|rfl
  all_goals
   refine FI (PMr [1]) Tryz.func186 Tryz.ntmps186 [(1,28,[],[],(lin [] [0,1,2,3,4,5,6,7,8,9,10,11,12,13,14,15,16,17,18,19,20,21,22,23,24,25,26,27]))] rfl rfl ?_
   (have hWf:=w4 @DPNode.enc_eq @x5 @g1 @g2;repeat' (first|refine zS ?_|refine zI ?_ ?_|((with_reducible apply xc);refine zG (yy s hs _ _) ?_)|((with_reducible apply xj);refine xg (yy s hs _ _) ?_)|refine zK (xz s hs) ?_|exact zF0|refine zD fun hb=>?_|exact zC|refine zT ?_|fail))
   all_goals exact sB (by unfold zL;first|(simp_all;done)|grind)
theorem l04P_K(xs:List DPNode)(hl:xs.length<=1048576)(kind n:Int)(s:ByteArray)(hs:s.size<=maxLen)(k:Nat)(hk:k<xs.length):FT 186 [.ag [.sl 4 (xs.map DPNode.enc)],.ag (DPNode.mk kind n s [(k:Int)]).enc] (fun r _=>r=.s (.bool (zL (xs[k].kind==5) ⟨kind,n,s,[(k:Int)]⟩))):=by
 have g1:=geB (Int.natCast_nonneg k);have g2:=decide_eq_true (show (k:Int)<xs.length by omega)
 have g3:=xi DPNode.enc xs k hk;have g4:=DPNode.enc_eq xs[k];rcases (show (kind<1\/6<kind)\/kind=1\/kind=2\/kind=3\/kind=4\/kind=5\/kind=6 by omega) with hr|hin
 .have e1:(kind==1)=false:=by simp;omega
  have e2:(kind==2)=false:=by simp;omega
  have e3:(kind==3)=false:=by simp;omega
  have e4:(kind==4)=false:=by simp;omega
  have e5:(kind==5)=false:=by simp;omega
  have e6:(kind==6)=false:=by simp;omega
  rw [vy (by exact hr)]
  refine FI (PMr [1]) Tryz.func186 Tryz.ntmps186 [(1,28,[],[],(lin [] [0,1,2,3,4,5,6,7,8,9,10,11,12,13,14,15,16,17,18,19,20,21,22,23,24,25,26,27]))] rfl rfl ?_
  (have hWf:=w10 @DPNode.enc_eq @x5 @g1 @g2 @g3 @g4 @e1 @e2 @e3 (ai @e4<|ai @e5<|@e6);repeat' (first|refine zS ?_|refine zI ?_ ?_|exact zF0|refine zD fun hb=>?_|exact zC|refine zT ?_|fail))
 .rcases hin with rfl|rfl|rfl|rfl|rfl|rfl
  all_goals
   refine FI (PMr [1]) Tryz.func186 Tryz.ntmps186 [(1,28,[],[],(lin [] [0,1,2,3,4,5,6,7,8,9,10,11,12,13,14,15,16,17,18,19,20,21,22,23,24,25,26,27]))] rfl rfl ?_
   (have hWf:=w6 @DPNode.enc_eq @x5 @g1 @g2 @g3 @g4;repeat' (first|refine zS ?_|refine zI ?_ ?_|((with_reducible apply xc);refine zG (yy s hs _ _) ?_)|((with_reducible apply xj);refine xg (yy s hs _ _) ?_)|refine zK (xz s hs) ?_|exact zF0|refine zD fun hb=>?_|exact zC|refine zT ?_|fail))
   all_goals exact sB (by unfold zL;first|(simp_all;done)|grind)
theorem l04P_L(xs:List DPNode)(hl:xs.length<=1048576)(kind n:Int)(s:ByteArray)(hs:s.size<=maxLen)(a b:Int)(l:List Int)(hkl:l.length<=1048576):FT 186 [.ag [.sl 4 (xs.map DPNode.enc)],.ag (DPNode.mk kind n s (a::b::l)).enc] (fun r _=>r=.s (.bool (zL false ⟨kind,n,s,(a::b::l)⟩))):=by
 have g1:(((l.length+1+1:Nat):Int)==1)=false:=by simp;omega
 rcases (show (kind<1\/6<kind)\/kind=1\/kind=2\/kind=3\/kind=4\/kind=5\/kind=6 by omega) with hr|hin
 .have e1:(kind==1)=false:=by simp;omega
  have e2:(kind==2)=false:=by simp;omega
  have e3:(kind==3)=false:=by simp;omega
  have e4:(kind==4)=false:=by simp;omega
  have e5:(kind==5)=false:=by simp;omega
  have e6:(kind==6)=false:=by simp;omega
  rw [vy (by exact hr)]
  refine FI (PMr [1]) Tryz.func186 Tryz.ntmps186 [(1,28,[],[],(lin [] [0,1,2,3,4,5,6,7,8,9,10,11,12,13,14,15,16,17,18,19,20,21,22,23,24,25,26,27]))] rfl rfl ?_
  (have hWf:=w9 @DPNode.enc_eq @x5 @g1 @e1 @e2 @e3 @e4 @e5 @e6;repeat' (first|refine zS ?_|refine zI ?_ ?_|exact zF0|refine zD fun hb=>?_|exact zC|refine zT ?_|fail))
 .rcases hin with rfl|rfl|rfl|rfl|rfl|rfl
  all_goals
   refine FI (PMr [1]) Tryz.func186 Tryz.ntmps186 [(1,28,[],[],(lin [] [0,1,2,3,4,5,6,7,8,9,10,11,12,13,14,15,16,17,18,19,20,21,22,23,24,25,26,27]))] rfl rfl ?_
   (have hWf:=w3 @DPNode.enc_eq @x5 @g1;repeat' (first|refine zS ?_|refine zI ?_ ?_|((with_reducible apply xc);refine zG (yy s hs _ _) ?_)|((with_reducible apply xj);refine xg (yy s hs _ _) ?_)|refine zK (xz s hs) ?_|exact zF0|refine zD fun hb=>?_|exact zC|refine zT ?_|fail))
   all_goals exact sB (by unfold zL;first|(simp_all;done)|grind)
theorem xbv(xs:List DPNode)(x:DPNode)(hx:x.ok)(hl:xs.length<=1048576)(hkl:x.kids.length<=1048576):FT 186 [.ag [.sl 4 (xs.map DPNode.enc)],.ag x.enc] (fun r _=>r=.s (.bool (wA xs x))):=by
 obtain ⟨kind,n,s,kids⟩:=x;obtain ⟨-,-,hs,-⟩:=hx;dsimp only at hkl hs
 show FT 186 _ (fun r _=>r=.s (.bool (zL (XN xs kids) ⟨kind,n,s,kids⟩)))
 match kids,hkl with
 | [],_=>exact l04P_N xs hl kind n s hs
 | [z],_=>
  by_cases h0:z<0
  .rw [Qn xs [z] rfl (.inl h0)]
   exact l04P_B xs hl kind n s hs z (decide_eq_false (by omega))
  .by_cases h1:(xs.length:Int)<=z
   .rw [Qn xs [z] rfl (.inr h1)]
    exact l04P_O xs hl kind n s hs z (decide_eq_true (by omega)) (decide_eq_false (by omega))
   .have hk:z.toNat<xs.length:=by omega
    obtain ⟨k,rfl⟩:∃ k:Nat,z=(k:Int):=⟨z.toNat,by omega⟩
    have hk:k<xs.length:=by omega
    rw [xav xs [(k:Int)] rfl k hk rfl];exact l04P_K xs hl kind n s hs k hk
 | a::b::l,hkl=>
  rw [xaw _ _ (by simp)]
  exact l04P_L xs hl kind n s hs a b l (by simp at hkl;omega)
theorem V0(xs:List DPNode)(hl:xs.length<=1000000000)(hks:∀ x∈xs,x.kids.length<=1000000000) :
  ∀ (N m:Nat),xs.length - m<=N->m<=2000000000->FT 187 [.ag [.sl 4 (xs.map DPNode.enc)],.s (.int .i64 m)] (fun r _=>r=.s (.int .i64 (endZ (pEnd (zw xs) N m)))):=by
 have hlen:(zw xs).length=xs.length:=by simp
 have out:∀ (N m:Nat),xs.length<=m->m<=2000000000->FT 187 [.ag [.sl 4 (xs.map DPNode.enc)],.s (.int .i64 m)] (fun r _=>r=.s (.int .i64 (endZ (pEnd (zw xs) N m)))):=by
  intro N m hm hm2;rw [Ye _ _ _ (by rw [hlen];exact hm)]
  refine FI PM Tryz.func187 Tryz.ntmps187 [] rfl rfl ?_
  (have hWf:=f0;repeat' (first|refine zS ?_|refine zI ?_ ?_|exact zF0|refine zD fun hb=>?_|exact zC|refine zT ?_|fail))
  all_goals (try rfl)
 intro N
 induction N with
 | zero=>intro m hm hm2;exact out 0 m (by omega) hm2
 | succ N ih=>
  intro m hm hm2
  by_cases hlt:m<xs.length
  .have hx:=xi DPNode.enc xs m hlt
   have he:=DPNode.enc_eq xs[m];have hkl:=hks _ (List.getElem_mem hlt);rw [YR _ _ _ (by rw [hlen];exact hlt)]
   have hka:(zw xs)[m]'(by rw [hlen];exact hlt)=xs[m].kids:=by simp [zw]
   rw [hka];obtain ⟨R,hR⟩:∃ R,zV (pEnd (zw xs) N) xs[m].kids (m+1)=R:=⟨_,rfl⟩;rw [hR];refine FI PM Tryz.func187 Tryz.ntmps187 [] rfl rfl ?_
   (have hWf:=w2 @hx @he;repeat' (first|refine zS ?_|refine zI ?_ ?_|exact zF0|refine zD fun hb=>?_|exact zC|refine zT ?_|fail))
   refine xn (fun n σ=>∃ j cur:Nat,j<=xs[m].kids.length/\n=xs[m].kids.length - j/\m<cur/\cur<=2000000000/\zV (pEnd (zw xs) N) (xs[m].kids.drop j) cur=R/\σ.t 2=.bx 2 0/\σ.b 2=some (.box [.sl 4 (xs.map DPNode.enc)])/\σ.t 5=.s (.int .i64 cur)/\σ.t 20=yT xs[m].kids/\σ.t 21=.s (.int .i64 xs[m].kids.length)/\σ.t 22=.s (.int .i64 j)) xs[m].kids.length ⟨0,m+1,by omega,by omega,by omega,by omega,by rw [List.drop_zero];exact hR,?_⟩ ?_
   .simp only [go_sem,simprocAttr]
    simp
   .rintro n σ ⟨j,cur,hj,rfl,hcur,hc2,hp,h2,hb2,h5,h20,h21,h22⟩ K' hK
    by_cases hjl:j<xs[m].kids.length
    .have gx:=xi iE xs[m].kids j hjl
     rw [ZO _ j hjl,vM] at hp
     by_cases hkc:xs[m].kids[j]=(cur:Int)
     .have hw:yN (zw xs) N xs[m].kids[j] cur=pEnd (zw xs) N cur:=by unfold yN;rw [if_pos hkc]
      rw [hw] at hp
      have hkn:((cur:Int) != (cur:Int))=false:=bne_self_eq_false _;have hcc:=ih cur (by omega) hc2
      cases hq:pEnd (zw xs) N cur with
      | none=>
       rw [hq] at hcc hp
       have hcc:FT 187 [.ag [.sl 4 (xs.map DPNode.enc)],.s (.int .i64 cur)] (fun r _=>r=.s (.int .i64 (-1))):=hcc
       (have hWf:=w10 @h2 @hb2 @h5 @h20 @h21 @h22 @gx @x5 @hkc @hkn;repeat' (first|refine zS ?_|refine zI ?_ ?_|refine zK hcc ?_|exact zF0|refine zD fun hb=>?_|exact zC|refine zT ?_|fail))
       all_goals (rw [<- hp];rfl)
      | some e1=>
       rw [hq] at hcc hp
       have hcc:FT 187 [.ag [.sl 4 (xs.map DPNode.enc)],.s (.int .i64 cur)] (fun r _=>r=.s (.int .i64 (e1:Int))):=hcc
       have hbd:=YS _ _ _ _ hq;rw [hlen] at hbd
       (have hWf:=w10 @h2 @hb2 @h5 @h20 @h21 @h22 @gx @x5 @hkc @hkn;repeat' (first|refine zS ?_|refine zI ?_ ?_|refine zK hcc ?_|exact zF0|refine zD fun hb=>?_|exact zC|refine zT ?_|fail))
       refine hK (xs[m].kids.length - (j+1)) _ (by omega) ⟨j+1,e1,by omega,rfl,by omega,by omega,hp,?_⟩
       simp only [go_sem,simprocAttr,h2,hb2,h5,h20,h21,h22]
       simp
     .have hw:yN (zw xs) N xs[m].kids[j] cur=none:=by unfold yN;rw [if_neg hkc]
      rw [hw] at hp
      have hne:(xs[m].kids[j] != (cur:Int))=true:=by simpa using hkc
      (have hWf:=w9 @h2 @hb2 @h5 @h20 @h21 @h22 @gx @x5 @hne;repeat' (first|refine zS ?_|refine zI ?_ ?_|exact zF0|refine zD fun hb=>?_|exact zC|refine zT ?_|fail))
      all_goals (rw [<- hp];rfl)
    .obtain rfl:j=xs[m].kids.length:=by omega
     rw [List.drop_eq_nil_of_le (Nat.le_refl _)] at hp
     (have hWf:=w6 @h2 @hb2 @h5 @h20 @h21 @h22;repeat' (first|refine zS ?_|refine zI ?_ ?_|exact zF0|refine zD fun hb=>?_|exact zC|refine zT ?_|fail))
     rw [<- hp];rfl
  .exact out (N+1) m (by omega) hm2
theorem xa4(xs:List DPNode)(ho:∀ x∈xs,x.ok)(hs:smS DPNode.sm xs):FT 114 [.ag [.sl 4 (xs.map DPNode.enc)]] (fun r _=>r=.s (.bool (patM xs))):=by
 have hl:=hs.1;have hkl:∀ x∈xs,x.kids.length<=1048576:=fun x hx=>(hs.2 x hx).2.1
 by_cases h600:1<=xs.length/\xs.length<=600
 .obtain ⟨h6,h7⟩:=h600
  refine FI PM Tryz.func114 Tryz.ntmps114 [(11,21,[],[],(lin [] [0,1,2,3,4,5,6,7,8,9,10,11,12,13,14,15,16,17,18,19,20])),(14,5,[],[],(lin [] [0,1,2,3,4]))] rfl rfl ?_
  (have hWf:=f0;repeat' (first|refine zS ?_|refine zI ?_ ?_|exact zF0|refine zD fun hb=>?_|exact zC|refine zT ?_|fail))
  refine xn (fun n σ=>∃ k:Nat,k<=xs.length/\n=xs.length - k/\σ.t 1=.bx 1 0/\σ.b 1=some (.box [.sl 4 (xs.map DPNode.enc)])/\σ.t 17=.sl 4 (xs.map DPNode.enc)/\σ.t 18=.s (.int .i64 xs.length)/\σ.t 19=.s (.int .i64 k)/\∀ j (hj:j<xs.length),j<k->y4 xs j hj=true) xs.length ⟨0,by omega,by omega,?_⟩ ?_
  .simp only [go_sem,simprocAttr,Int.natCast_zero]
   simp
  .rintro n σ ⟨k,hk,rfl,h1,hb1,h17,h18,h19,hg⟩ K' hK
   by_cases hlt:k<xs.length
   .have hx:=xi DPNode.enc xs k hlt
    have he:=DPNode.enc_eq xs[k];have hmem:=List.getElem_mem hlt;have hn:=xbv xs xs[k] (ho _ hmem) hl (hkl _ hmem);cases hpn:wA xs xs[k] with
    | false=>
     rw [hpn] at hn
     (have hWf:=w7 @h1 @hb1 @h17 @h18 @h19 @hx @he;repeat' (first|refine zS ?_|refine zI ?_ ?_|refine zK hn ?_|exact zF0|refine zD fun hb=>?_|exact zC|refine zT ?_|fail))
     all_goals exact sB (Zh hlt (WP hlt hpn)).symm
    | true=>
     rw [hpn] at hn
     (have hWf:=w7 @h1 @hb1 @h17 @h18 @h19 @hx @he;repeat' (first|refine zS ?_|refine zI ?_ ?_|refine zK hn ?_|exact zF0|refine zD fun hb=>?_|exact zC|refine zT ?_|fail))
     refine xn (fun n σ=>∃ j:Nat,j<=k/\n=k - j/\σ.t 1=.bx 1 0/\σ.b 1=some (.box [.sl 4 (xs.map DPNode.enc)])/\σ.t 3=.s (.int .i64 k)/\σ.t 4=.bx 4 0/\σ.b 4=some (.box [.s (.int .i64 xs[k].kind),.s (.int .i64 xs[k].n),.s (.string xs[k].s),.sl 1 (xs[k].kids.map iE)])/\σ.t 5=.s (.int .i64 j)/\σ.t 17=.sl 4 (xs.map DPNode.enc)/\σ.t 18=.s (.int .i64 xs.length)/\σ.t 19=.s (.int .i64 k)/\∀ i (hi:i<j) (hk:i<xs.length),dupB xs[i] xs[k]=false) k ⟨0,by omega,by omega,?_⟩ ?_
     .simp only [go_sem,simprocAttr,h1,hb1,h17,h18,h19,Int.natCast_zero]
      simp
     .rintro n σ ⟨j,hj,rfl,g1,gb1,g3,g4,gb4,g5,g17,g18,g19,hno⟩ K'' hK''
      by_cases hjl:j<k
      .have gx:=xi DPNode.enc xs j (by omega)
       have ge:=DPNode.enc_eq (xs[j]'(by omega))
       (have hWf:=w10 @g1 @gb1 @g3 @g4 @gb4 @g5 @g17 @g18 @g19 (ai @gx<|@ge);repeat' (first|refine zS ?_|refine zI ?_ ?_|exact zF0|refine zD fun hb=>?_|exact zC|refine zT ?_|fail))
       .exact fun h=>⟨h,h,by omega,by omega⟩
       .exact fun h=>⟨h,h,by omega,by omega⟩
       .refine sB (Zh hlt (WQ hlt hjl ?_)).symm
        unfold dupB;rw [hb.1.1,hb.1.2,toL_inj hb.2];simp
       .refine hK'' (k - (j+1)) _ (by omega) ⟨j+1,by omega,rfl,?_⟩
        simp only [go_sem,simprocAttr,g1,gb1,g3,g4,gb4,g17,g18,g19,Int.natCast_succ];intro i hi hik;rcases Nat.lt_or_ge i j with q|q
        .exact hno i q hik
        .obtain rfl:i=j:=by omega
         unfold dupB;rcases hb with (hb|hb)|hb
         .rw [show (xs[k].kind==2)=false by simpa using hb];rfl
         .rw [show (xs[i].kind==2)=false by simpa using hb];simp
         .rw [decide_eq_false (fun e=>hb (by rw [e]))];simp
      .obtain rfl:j=k:=by omega
       (have hWf:=w9 @g1 @gb1 @g3 @g4 @gb4 @g5 @g17 @g18 @g19;repeat' (first|refine zS ?_|refine zI ?_ ?_|exact zF0|refine zD fun hb=>?_|exact zC|refine zT ?_|fail))
       refine hK (xs.length - (j+1)) _ (by omega) ⟨j+1,by omega,rfl,?_⟩
       simp only [go_sem,simprocAttr,g1,gb1,g17,g18,g19,Int.natCast_succ];exact ZS hg hlt (Qc hlt hpn fun i hi=>hno i hi (by omega))
   .obtain rfl:k=xs.length:=by omega
    (have hWf:=w5 @h1 @hb1 @h17 @h18 @h19;repeat' (first|refine zS ?_|refine zI ?_ ?_|((with_reducible apply xc);refine zG (V0 xs (by omega) (fun x hx=>by have:=hkl x hx;omega) xs.length 0 (by omega) (by omega)) ?_)|refine zU (V0 xs (by omega) (fun x hx=>by have:=hkl x hx;omega) xs.length 0 (by omega) (by omega)) ?_|exact zF0|refine zD fun hb=>?_|exact zC|refine zT ?_|fail))
    refine sB ?_;have hall:(List.finRange xs.length).all (fun i=>y4 xs i.1 i.2)=true:=Vo.2 fun i=>hg i.1 i.2 i.2
    unfold patM;rw [hall,decide_eq_true h6,decide_eq_true h7,Ua];unfold yi;rw [Yv];rfl
 .have hb:patM xs=false:=by
   unfold patM
   by_cases q:1<=xs.length
   .rw [decide_eq_false (p:=xs.length<=600) (by omega)];simp
   .rw [decide_eq_false q];simp
  rw [hb];refine FI PM Tryz.func114 Tryz.ntmps114 [(11,21,[],[],(lin [] [0,1,2,3,4,5,6,7,8,9,10,11,12,13,14,15,16,17,18,19,20])),(14,5,[],[],(lin [] [0,1,2,3,4]))] rfl rfl ?_
  by_cases q:xs.length<1
  .have e1:decide ((xs.length:Int)<1)=true:=decide_eq_true (by omega)
   (have hWf:=w1 @e1;repeat' (first|refine zS ?_|refine zI ?_ ?_|exact zF0|refine zD fun hb=>?_|exact zC|refine zT ?_|fail))
  .have e1:decide ((xs.length:Int)<1)=false:=decide_eq_false (by omega)
   have e2:decide ((xs.length:Int)>600)=true:=decide_eq_true (by omega)
   (have hWf:=w2 @e1 @e2;repeat' (first|refine zS ?_|refine zI ?_ ?_|exact zF0|refine zD fun hb=>?_|exact zC|refine zT ?_|fail))
theorem WN(xs:List DPNode)(ho:∀ x∈xs,x.ok)(hs:smS DPNode.sm xs):FT 46 [.ag [.sl 4 (xs.map DPNode.enc)]] (fun r _=>r=.s (.bool (patM xs))):=by
 have hl:=hs.1;have hkl:∀ x∈xs,x.kids.length<=1048576:=fun x hx=>(hs.2 x hx).2.1
 refine FI PM Tryz.func46 Tryz.ntmps46 [] rfl rfl ?_
 (refine xE ?_;simp only [go_sem,simprocAttr];(have hWf:=f0;repeat' (first|refine zY ?_|refine zI ?_ ?_|exact zF1|refine zD fun hb=>?_|exact zC|refine zT ?_|fail)))
 refine z8 1 (.box [.sl 4 (xs.map DPNode.enc)]) (by simp only [go_sem,simprocAttr]) rfl ?_
 (have hWf:=f0;repeat' (first|refine zS ?_|refine zI ?_ ?_|refine zK (xv xs.length 1 600) ?_|((with_reducible apply xc);refine zG (UO xs ho (by omega) (fun x hx=>by have:=hkl x hx;omega)) ?_)|refine zU (UO xs ho (by omega) (fun x hx=>by have:=hkl x hx;omega)) ?_|exact zF0|refine zD fun hb=>?_|exact zC|refine zT ?_|fail))
 .refine sB ?_
  unfold patM;rcases hb with (hb|hb)|hb
  .rw [decide_eq_false (by omega:¬ 1<=xs.length)];rfl
  .rw [decide_eq_false (by omega:¬ xs.length<=600)];simp
  .rw [hb];simp
 .obtain ⟨⟨h6,h7⟩,hord⟩:(1<=xs.length/\xs.length<=600)/\yi (zw xs)=true:=by
   exact ⟨⟨by omega,by omega⟩,hb.2⟩
  refine xn (fun n σ=>∃ (k:Nat) (ns:List ByteArray),k<=xs.length/\n=xs.length - k/\NamesAt xs k ns/\σ.t 1=.pt [.sl 4 (xs.map DPNode.enc)]/\σ.t 3=.bs 19 1 ns.length/\σ.b 19=some (.arr 9 1 (ns.map stE))/\σ.t 21=.sl 4 (xs.map DPNode.enc)/\σ.t 22=.s (.int .i64 xs.length)/\σ.t 23=.s (.int .i64 k)/\∀ j (hj:j<xs.length),j<k->y4 xs j hj=true) xs.length ⟨0,[],by omega,by omega,NamesAt.zero xs,?_⟩ ?_
  .simp only [go_sem,simprocAttr,Int.natCast_zero]
   simp
  .rintro n σ ⟨k,ns,hk,rfl,hns,h1,h3,hb3,h21,h22,h23,hg⟩ K' hK
   have hnl:=hns.1
   by_cases hlt:k<xs.length
   .have hx:=xi DPNode.enc xs k hlt
    have he:=DPNode.enc_eq xs[k];have hmem:=List.getElem_mem hlt;have hn:=xa3 xs xs[k] (ho _ hmem) (hkl _ hmem) (fun h1=>order_inP hord k hlt h1)
    cases hpn:wA xs xs[k] with
    | false=>
     rw [hpn] at hn
     (have hWf:=w9 @h1 @h3 @hb3 @h21 @h22 @h23 @hx @he @xd;repeat' (first|refine zS ?_|refine zI ?_ ?_|refine zK hn ?_|refine zK (wL ns xs[k].s) ?_|exact zF0|refine zD fun hb=>?_|exact zC|refine zT ?_|fail))
     all_goals exact sB (Zh hlt (WP hlt hpn)).symm
    | true=>
     rw [hpn] at hn
     cases h2:(xs[k].kind==2) with
     | false=>
      have h2':xs[k].kind≠2:=by simpa using h2
      (have hWf:=w10 @h1 @h3 @hb3 @h21 @h22 @h23 @hx @he @h2 @xd;repeat' (first|refine zS ?_|refine zI ?_ ?_|refine zK hn ?_|refine zK (wL ns xs[k].s) ?_|exact zF0|refine zD fun hb=>?_|exact zC|refine zT ?_|fail))
      refine hK (xs.length - (k+1)) _ (by omega) ⟨k+1,ns,by omega,rfl,hns.skip hlt h2',?_⟩
      simp only [go_sem,simprocAttr,h1,h3,hb3,h21,h22,Int.natCast_succ];exact ZS hg hlt (hns.none hlt hpn fun h=>absurd h h2')
     | true=>
      have h2':xs[k].kind=2:=by simpa using h2
      cases hi:inL xs[k].s ns with
      | true=>
       (have hWf:=w10 @h1 @h3 @hb3 @h21 @h22 @h23 @hx @he @h2 (ai @hi<|@xd);repeat' (first|refine zS ?_|refine zI ?_ ?_|refine zK hn ?_|refine zK (wL ns xs[k].s) ?_|exact zF0|refine zD fun hb=>?_|exact zC|refine zT ?_|fail))
       all_goals exact sB (Zh hlt (hns.dup hlt h2' hi)).symm
      | false=>
       (have hWf:=w10 @h1 @h3 @hb3 @h21 @h22 @h23 @hx @he @h2 (ai @hi<|@xd);repeat' (first|refine zS ?_|refine zI ?_ ?_|refine zK hn ?_|refine zK (wL ns xs[k].s) ?_|exact zF0|refine zD fun hb=>?_|exact zC|refine zT ?_|fail))
       refine hK (xs.length - (k+1)) _ (by omega) ⟨k+1,ns++[xs[k].s],by omega,rfl,hns.add hlt h2',?_⟩
       simp only [go_sem,simprocAttr,h1,h3,hb3,h21,h22,Int.natCast_succ,List.map_append,List.length_append,xH];exact ZS hg hlt (hns.none hlt hpn fun _=>hi)
   .obtain rfl:k=xs.length:=by omega
    (have hWf:=w6 @h1 @h3 @hb3 @h21 @h22 @h23;repeat' (first|refine zS ?_|refine zI ?_ ?_|exact zF0|refine zD fun hb=>?_|exact zC|refine zT ?_|fail))
    refine sB ?_;have hall:(List.finRange xs.length).all (fun i=>y4 xs i.1 i.2)=true:=Vo.2 fun i=>hg i.1 i.2 i.2
    unfold patM;rw [hall,decide_eq_true h6,decide_eq_true h7,hord];rfl
end
section
open Arb
structure PI where
 kind:Int
 n:Int
 s:ByteArray
abbrev PT:=Arb PI
def PI.node(a:PI)(l:List Int):DPNode:=⟨a.kind,a.n,a.s,l⟩
theorem Zi{xs:List DPNode}(h:patM xs=true):1<=xs.length/\xs.length<=600:=by
 unfold patM at h
 simp only [Bool.and_eq_true,decide_eq_true_eq] at h
 exact h.1.1
theorem Yw{xs:List DPNode}(h:patM xs=true):∀ x∈xs,x.kids.length<=2:=by
 intro x hx;obtain ⟨k,hk,rfl⟩:=List.getElem_of_mem hx;unfold patM at h
 simp only [Bool.and_eq_true,decide_eq_true_eq] at h
 have:=Vo.1 h.1.2 ⟨k,hk⟩;unfold y4 at this
 simp only [Bool.and_eq_true] at this
 have N:=this.1;unfold wA zL at N
 split at N
 .simp only [Bool.and_eq_true,beq_iff_eq] at N;have:=N.1.1;omega
 split at N
 .simp only [Bool.and_eq_true,beq_iff_eq] at N;have:=N.1.1;omega
 split at N
 .simp only [Bool.and_eq_true,beq_iff_eq] at N;have:=N.1.1;omega
 split at N
 .simp only [Bool.and_eq_true,beq_iff_eq] at N;have:=N.1.1;omega
 split at N
 .simp only [Bool.and_eq_true] at N
  have:=N.2;unfold yv at this
  split at this
  .simp only [beq_iff_eq] at this;omega
  .split at this
   .simp only [Bool.and_eq_true,beq_iff_eq] at this;omega
   .simp only [Bool.and_eq_true,decide_eq_true_eq] at this;omega
 .cases N
end
section
attribute [local go_sem] List.length_set List.set_set
open Go.RowKit Go.ChangeShapes Go.WideShapes
structure MNode where
 kind:Int
 at_:Int
 n:Int
 s:ByteArray
 kids:List Int
 pats:List MPat
def MNode.enc(x:MNode):List D:=[.s (.int .i64 x.kind),.s (.int .i64 x.at_),.s (.int .i64 x.n),.s (.string x.s),.sl 1 (x.kids.map iE),.sl 1 (x.pats.map MPat.enc)]
theorem MNode.enc_eq(x:MNode):x.enc=[.s (.int .i64 x.kind),.s (.int .i64 x.at_),.s (.int .i64 x.n),.s (.string x.s),.sl 1 (x.kids.map iE),.sl 1 (x.pats.map MPat.enc)]:=rfl
def MNode.own(x:MNode):List D:=[.s (.int .i64 x.kind),.s (.int .i64 x.at_),.s (.int .i64 x.n),.s (.string x.s),.osl 3 1 (x.kids.map iE),.osl 89 1 (x.pats.map MPat.own)]
theorem MNode.own_eq(x:MNode):x.own=[.s (.int .i64 x.kind),.s (.int .i64 x.at_),.s (.int .i64 x.n),.s (.string x.s),.osl 3 1 (x.kids.map iE),.osl 89 1 (x.pats.map MPat.own)]:=rfl
theorem MNode.frz_eq(x:MNode):frzL x.own=x.enc:=by
 simp only [MNode.own_eq,MNode.enc_eq,frzL,frz,yh U4,yh MPat.frz_eq]
def MNode.ok(x:MNode):Prop:=I64 x.kind/\I64 x.at_/\I64 x.n/\x.s.size<=maxLen/\(∀ y∈x.kids,I64 y)/\(∀ y∈x.pats,y.ok)
def MNode.sm(x:MNode):Prop:=x.s.size<=1048576/\smS (fun _:Int=>True) x.kids/\smS MPat.sm x.pats
theorem MNode.pure(x:MNode):∀ d∈x.own,Pure d:=by
 simp only [MNode.own_eq,List.forall_mem_cons,List.not_mem_nil,false_imp_iff,implies_true,and_true];exact ⟨.s _,.s _,.s _,.s _,yI Vq _ _ _,yI MPat.pure _ _ _⟩
theorem MNode.pureS(e k:Nat)(xs:List MNode):Pure (.osl e k (xs.map MNode.own))=True:=eq_true (yI MNode.pure e k xs)
attribute [go_sem] MNode.pureS
theorem MNode.frzS(xs:List MNode):xU (xs.map MNode.own)=xs.map MNode.enc:=yh MNode.frz_eq xs
attribute [go_sem] MNode.frzS
end
section
attribute [local go_sem] List.length_set List.set_set
open Go.RowKit Go.ChangeShapes Go.WideShapes
structure MCon where
 name:ByteArray
 has:Bool
 arg:List TyI
def MCon.enc(x:MCon):List D:=[.s (.string x.name),.s (.bool x.has),.sl 3 (x.arg.map TyI.enc)]
theorem MCon.enc_eq(x:MCon):x.enc=[.s (.string x.name),.s (.bool x.has),.sl 3 (x.arg.map TyI.enc)]:=rfl
def MCon.own(x:MCon):List D:=[.s (.string x.name),.s (.bool x.has),.osl 159 3 (x.arg.map TyI.own)]
theorem MCon.own_eq(x:MCon):x.own=[.s (.string x.name),.s (.bool x.has),.osl 159 3 (x.arg.map TyI.own)]:=rfl
theorem MCon.frz_eq(x:MCon):frzL x.own=x.enc:=by
 simp only [MCon.own_eq,MCon.enc_eq,frzL,frz,yh TyI.frz_eq]
def MCon.ok(x:MCon):Prop:=x.name.size<=maxLen/\True/\(∀ y∈x.arg,y.ok)
def MCon.sm(x:MCon):Prop:=x.name.size<=1048576/\smS TyI.sm x.arg
theorem MCon.pure(x:MCon):∀ d∈x.own,Pure d:=by
 simp only [MCon.own_eq,List.forall_mem_cons,List.not_mem_nil,false_imp_iff,implies_true,and_true];exact ⟨.s _,.s _,yI TyI.pure _ _ _⟩
theorem MCon.pureS(e k:Nat)(xs:List MCon):Pure (.osl e k (xs.map MCon.own))=True:=eq_true (yI MCon.pure e k xs)
attribute [go_sem] MCon.pureS
end
section
attribute [local go_sem] List.length_set List.set_set
open Go.RowKit Go.ChangeShapes Go.WideShapes
structure MType where
 name:ByteArray
 params:Int
 cons:List MCon
def MType.enc(x:MType):List D:=[.s (.string x.name),.s (.int .i64 x.params),.sl 3 (x.cons.map MCon.enc)]
theorem MType.enc_eq(x:MType):x.enc=[.s (.string x.name),.s (.int .i64 x.params),.sl 3 (x.cons.map MCon.enc)]:=rfl
def MType.own(x:MType):List D:=[.s (.string x.name),.s (.int .i64 x.params),.osl 68 3 (x.cons.map MCon.own)]
theorem MType.own_eq(x:MType):x.own=[.s (.string x.name),.s (.int .i64 x.params),.osl 68 3 (x.cons.map MCon.own)]:=rfl
theorem MType.frz_eq(x:MType):frzL x.own=x.enc:=by
 simp only [MType.own_eq,MType.enc_eq,frzL,frz,yh MCon.frz_eq]
def MType.ok(x:MType):Prop:=x.name.size<=maxLen/\I64 x.params/\(∀ y∈x.cons,y.ok)
def MType.sm(x:MType):Prop:=x.name.size<=1048576/\smS MCon.sm x.cons
theorem MType.pure(x:MType):∀ d∈x.own,Pure d:=by
 simp only [MType.own_eq,List.forall_mem_cons,List.not_mem_nil,false_imp_iff,implies_true,and_true];exact ⟨.s _,.s _,yI MCon.pure _ _ _⟩
theorem MType.pureS(e k:Nat)(xs:List MType):Pure (.osl e k (xs.map MType.own))=True:=eq_true (yI MType.pure e k xs)
attribute [go_sem] MType.pureS
theorem MType.frzS(xs:List MType):xU (xs.map MType.own)=xs.map MType.enc:=yh MType.frz_eq xs
attribute [go_sem] MType.frzS
end
section
open Go.RowKit Go.ChangeShapes Go.WideShapes
structure MProgram where
 types:List MType
 nodes:List MNode
def MProgram.enc(x:MProgram):List D:=[.sl 3 (x.types.map MType.enc),.sl 6 (x.nodes.map MNode.enc)]
theorem MProgram.enc_eq(x:MProgram):x.enc=[.sl 3 (x.types.map MType.enc),.sl 6 (x.nodes.map MNode.enc)]:=rfl
def MProgram.own(x:MProgram):List D:=[.osl 63 3 (x.types.map MType.own),.osl 55 6 (x.nodes.map MNode.own)]
theorem MProgram.own_eq(x:MProgram):x.own=[.osl 63 3 (x.types.map MType.own),.osl 55 6 (x.nodes.map MNode.own)]:=rfl
def MProgram.ok(x:MProgram):Prop:=(∀ y∈x.types,y.ok)/\(∀ y∈x.nodes,y.ok)
def MProgram.sm(x:MProgram):Prop:=smS MType.sm x.types/\smS MNode.sm x.nodes
end
section
def arI(k:Int):Int:=
 if k=1\/k=2\/k=3\/k=12 then 0 else if k=5\/k=14\/k=16\/k=17 then 1
 else if k=6\/k=7\/k=8\/k=10\/k=11\/k=15\/k=18\/k=19 then 2 else if k=9 then 3 else -1
def kidK(nodes:List MNode)(l:List Int)(kd:Int):Bool:=match l with
 | k::_=>decide (0<=k)&&(match nodes[k.toNat]? with|some x=>x.kind==kd|none=>false)
 | []=>false
theorem YP{nodes:List MNode}{l:List Int}(h:0<l.length){k:Nat}(hk:k<nodes.length)(e:l[0]=(k:Int))(kd:Int):kidK nodes l kd=(nodes[k].kind==kd):=by
 match l,h with
 | z::r,_=>
  have hz:z=(k:Int):=e;subst hz;simp only [kidK,Int.toNat_natCast,List.getElem?_eq_getElem hk];rw [decide_eq_true (by omega)];rfl
def xV(nodes:List MNode)(n:MNode)(nb:Bool):Bool:=
 if n.kind=1 then decide (0<=n.n)&&decide (n.n<=4611686018427387903)&&n.s.toList.isEmpty
 else if n.kind=2 then true
 else if n.kind=3\/n.kind=5\/n.kind=7\/n.kind=15 then nb
 else if n.kind=8 then nb&&kidK nodes n.kids 5
 else if n.kind=10 then uF n.s
 else if n.kind=4 then yv n.s n.kids.length (decide (n.kids.length=1)&&kidK nodes n.kids 11)
 else if n.kind=13 then n.s.toList.isEmpty&&decide (1<=n.pats.length)&&decide (n.kids.length=n.pats.length+1)
 else decide (1<=n.kind)&&decide (n.kind<=19)&&n.s.toList.isEmpty
def yw(nodes:List MNode)(n:MNode)(nb:Bool):Bool:=
 decide (0<=n.at_)&&(decide (arI n.kind<0)||decide ((n.kids.length:Int)=arI n.kind))&&(decide (n.kind=13)||decide (n.pats.length=0))&&(decide (n.kind=1)||decide (n.kind=3)||decide (n.n=0))&&xV nodes n nb
def yg(n:MNode):Bool:=yM n.s&&decide (n.n=0)
def inB(nodes:List MNode)(l:List Int):Bool:=l.all fun k=>decide (0<=k)&&decide (k<(nodes.length:Int))
def x9(nodes:List MNode)(n:MNode):Bool:=inB nodes n.kids&&yw nodes n (yg n)&&n.pats.all fun q=>patM q.nodes
def yK(params:Int)(c:MCon):Bool:=conM c.name.data.toList&&(if c.has=true then uX c.arg&&c.arg.all (fun x=>!(x.name.toList.isEmpty&&decide (params<=x.v))) else decide (c.arg.length=0))
def wb(t:MType):Bool:=yM t.name&&decide (0<=t.params)&&decide (t.params<=2)&&decide (1<=t.cons.length)&&decide (t.cons.length<=8)&&t.cons.all (yK t.params)
abbrev x7(nodes:List MNode):List (List Int):=nodes.map fun n=>n.kids
def wI(p:MProgram):Bool:=decide (1<=p.nodes.length)&&decide (p.nodes.length<=600)&&decide (p.types.length<=8)&&p.types.all wb&&p.nodes.all (x9 p.nodes)&&yi (x7 p.nodes)
end
section
open Go.RowKit Go.ChangeShapes Go.WideShapes
end
section
open Go.RowKit
theorem node_kids(w:World)(h:Hp)(hs:Sub h w)(v:Value)(ks:List (List Int))(hv:KidsAt 6 4 h v ks)(hl:ks.length<=1000000000)(Bd Od:Nat)(hB:w.cell? ⟨Bd,Od+1,none⟩=some v)(i:Nat)(hi:i<ks.length) :
  Calls Tryz.prog 96 #[.int .i64 i,.pointer (some ⟨Bd,Od,none⟩)] w fun e w'=>KidQ h w ks[i] e w':=by
 have HV:=Lib.hid hv;obtain ⟨a,c,rfl,hc1,hc2,-⟩:=hv;unfold maxLen at hc2
 obtain ⟨b,off,rfl,hcell⟩:=HV.out.cell hi;obtain ⟨v1,hrel,hcs⟩:=hcell i hi;have c3:=hcs w hs;have HR:=Lib.hid hrel;clear hcell hcs hrel
 go_enter Tryz.func96,Tryz.ntmps96
 go_wp2_with fail
 go_ret
 exact ⟨_,rfl,HR.out,(by repeat (first|with_reducible exact Below.refl _ _|with_reducible assumption|with_reducible refine Below.setCell ?_ ?_ _|with_reducible refine Below.alloc ?_ ?_ _|with_reducible refine Below.drew ?_|(with_reducible apply Xk;with_reducible assumption)|exact Nat.le_refl _|omega|(simp<;>omega)))⟩
theorem xbp(p:MProgram)(ho:∀ x∈p.nodes,x.ok)(hl:p.nodes.length<=1000000000)(hks:∀ x∈p.nodes,x.kids.length<=1000000000) :
  FT 95 [.s (.int .i64 p.nodes.length),.fn 96 [.pt p.enc]] (fun r _=>r=.s (.bool (yi (p.nodes.map MNode.kids)))):=by
 have hlen:(p.nodes.map MNode.kids).length=p.nodes.length:=List.length_map _;have:=VT 96 (ent_of Tryz.func96 rfl rfl) (p.nodes.map MNode.kids) p.enc (by rw [hlen];exact hl) (fun k h=>by obtain ⟨x,hx,rfl⟩:=List.mem_map.1 h;exact hks x hx) fun w S up v hv w1 hb m hm=>by
  cases hv with
  | @pt _ _ b off ws hc hr=>
   have c1:=(hc 1 _ rfl).2;have hk:=Qe (enc:=MNode.enc) (kids:=MNode.kids) (k:=6) (c:=4) (by decide) (fun _ _=>rfl) (fun _ _=>rfl) (hr 1 _ rfl) (fun x hx=>(ho x hx).2.2.2.2.1)
   exact node_kids w1 (hp w) ((Sub.self w).below hb) _ _ hk (by rw [hlen];exact hl) b off (wQ hb c1) m hm
 rw [hlen] at this
 exact this
end
end Go.Proofs.YtgcdbmcoendcdaaGreat
