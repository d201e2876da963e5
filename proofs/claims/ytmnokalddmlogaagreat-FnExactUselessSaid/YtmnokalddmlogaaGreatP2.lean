/- Parts of the proof. -/
import Derived.Test.YtmnokalddmlogaaGreatP1
set_option linter.unusedSimpArgs false
set_option linter.unusedVariables false
set_option maxRecDepth 100000
set_option maxHeartbeats 8000000
namespace Go.Proofs.YtmnokalddmlogaaGreat
section
open Go.RowKit
theorem Q4:∀ (vs:List Value) (cs:Array Value) (off k:Nat),off+k+vs.length<=cs.size ->
  ((vs.zipIdx k).foldl (fun cs (p:Value×Nat)=>cs.setIfInBounds (off+p.2) p.1) cs).toList=lay cs.toList (off+k) vs
 | [],cs,off,k,h=>by simp [lay]
 | v::vs,cs,off,k,h=>by
  simp only [List.length_cons] at h
  rw [List.zipIdx_cons,List.foldl_cons,Q4 vs _ off (k+1) (by simp;omega)]
  unfold lay;have hl:off+k<cs.toList.length:=by rw [Array.length_toList];omega
  rw [Array.toList_setIfInBounds,List.length_cons,show off+(k+1)=off+k+1 by omega,show off+k+(vs.length+1)=off+k+1+vs.length by omega]
  rw [List.drop_set_of_lt (by omega),List.take_add_one,List.getElem?_set_self hl,List.take_set,List.set_eq_of_length_le (by simp;exact Nat.min_le_left _ _)]
  simp
theorem QL{place:Nat->Option (Nat×Nat)}{cells:Array Value}{i off sz:Nat}{v:Value}{rest:List (Nat×Value)}(hp:place i=some (off,sz))(h1:v.cells.size=sz)(h2:off+sz<=cells.size) :
  Instr.fill place cells ((i,v)::rest)=Instr.fill place (lay cells.toList off v.cells.toList).toArray rest:=by
 have hf:(v.cells.zipIdx.foldl (fun cs (p:Value×Nat)=>cs.setIfInBounds (off+p.2) p.1) cells)=(lay cells.toList off v.cells.toList).toArray:=by
  apply Array.ext';have hl:v.cells.toList.length=v.cells.size:=Array.length_toList;have:=Q4 v.cells.toList cells off 0 (by omega)
  rw [<- Array.foldl_toList,Array.toList_zipIdx];exact this
 simp only [Instr.fill,hp];rw [if_neg (by simp only [ne_eq,Bool.or_eq_true,decide_eq_true_eq];omega)]
 rw [<- hf]
theorem one_cells{v:Value}(h:v.oneCell'=true):v.cells=#[v]:=by cases v<;>first|rfl|(simp [Value.oneCell'] at h)
def vS:D->Option (List D)
 | .ag xs=>some xs
 | .un=>none
 | .tup _=>none
 | .mb _ _=>none
 | d=>some [d]
theorem uD{g:Gh}{w:World}{y:D}{cs:List D}{v:Value}(h:vS y=some cs)(hv:RE g w y v):RCs g w cs v.cells.toList:=by
 cases y with
 | ag xs=>
  injection h with h;subst h
  obtain ⟨us,rfl,hus⟩:=hv;exact hus
 | un=>cases h
 | tup _=>cases h
 | mb _ _=>cases h
 | _=>
  simp only [vS] at h
  injection h with h;subst h
  simp only [RE] at hv
  rw [one_cells hv.one];refine ⟨rfl,fun j z u a b=>?_⟩
  cases j with
  | zero=>simp at a b;subst a b;exact hv
  | succ j=>simp at a
def XR(σ:St)(fs:List (Nat×Nat×Bool)):List D->List (Nat×Operand)->Option (Prop×List D)
 | cells,[]=>some (True,cells)
 | cells,(i,x)::rest=>match fs[i]?,vS (xz (ev σ x)) with
  | some (off,sz,_),some xs=>match XR σ fs (lay cells off xs) rest with
   | some (ob,r)=>some (oblT (ev σ x)/\xs.length=sz/\off+sz<=cells.length/\ob,r)
   | none=>none
  | _,_=>none
theorem RCs.layOn{g:Gh}{w:World}{ys xs:List D}{us vs:List Value}(h:RCs g w ys us)(k:RCs g w xs vs)(off:Nat)(hl:off+xs.length<=ys.length):RCs g w (lay ys off xs) (lay us off vs):=by
 have h1:=h.1;have k1:=k.1;refine ⟨by rw [lay_len hl,lay_len (by omega),h1],fun j y u hy hu=>?_⟩
 rw [zx hl] at hy
 rw [zx (by omega)] at hu
 split at hy
 ·rw [if_pos (by omega)] at hu;exact k.2 _ y u hy hu
 ·rw [if_neg (by omega)] at hu;exact h.2 _ y u hy hu
theorem xaH{x:Cx}{g:Gh}{σ:St}{a:Act}{w:World}(hr:Rel x g σ a w){fs:List (Nat×Nat×Bool)}{place:Nat->Option (Nat×Nat)}(hpl:∀ i off sz ag,fs[i]?=some (off,sz,ag)->place i=some (off,sz)) :
  ∀ (parts:List (Nat×Operand)) (cells:List D) (cs:Array Value) (ob:Prop) (r:List D),XR σ fs cells parts=some (ob,r)->ob->RCs g w cells cs.toList ->
   ∃ cs',Instr.fill place cs (parts.map fun p=>(p.1,a.eval p.2))=some cs'/\RCs g w r cs'.toList
 | [],cells,cs,ob,r,h,ho,hc=>by
  injection h with h;injection h with e1 e2
  subst e2;exact ⟨cs,rfl,hc⟩
 | (i,y)::rest,cells,cs,ob,r,h,ho,hc=>by
  unfold XR at h
  split at h
  ·rename_i off sz ag xs hf hx
   split at h
   ·rename_i ob' r' h'
    injection h with h;injection h with e1 e2
    subst e1 e2;obtain ⟨o1,o2,o3,o4⟩:=ho;have hb:=uD hx (zP (Xj hr y) o1);have hl:cs.size=cells.length:=by have:=hc.1;rwa [Array.length_toList] at this
    have hvl:(a.eval y).cells.size=xs.length:=by have:=hb.1;rwa [Array.length_toList] at this
    have hlay:=hc.layOn hb off (by omega)
    obtain ⟨cs',r1,r2⟩:=xaH hr hpl rest _ (lay cs.toList off (a.eval y).cells.toList).toArray ob' r' h' o4 (by simpa using hlay)
    refine ⟨cs',?_,r2⟩;rw [List.map_cons,QL (v:=a.eval y) (hpl i off sz ag hf) (by omega) (by omega)]
    exact r1
   ·cases h
  ·cases h
theorem dv_RCs(g:Gh)(w:World)(us:List Value)(h:∀ u∈us,u.oneCell'=true):RCs g w (us.map dv) us:=by
 refine ⟨by simp,fun j d u hd hu=>?_⟩
 rw [List.getElem?_map,hu] at hd
 injection hd with hd
 subst hd;exact (dv_rep _ (h u (List.mem_of_getElem? hu))).rc
def uS(P:Program)(σ:St)(t:TypeId)(parts:Array (Nat×Operand)):Option (Prop×D):=match tk P t with
 | .st _ fs z=>match XR σ fs z parts.toList with
  | some (ob,r)=>some (ob,.ag r)
  | none=>none
 | _=>none
theorem Ql{x:Cx}{g:Gh}{σ:St}{a:Act}{w:World}(hr:Rel x g σ a w){t:TypeId}{parts:Array (Nat×Operand)}{ob:Prop}{y:D}(h:uS x.P σ t parts=some (ob,y))(ho:ob) :
  ∃ r,(Instr.build t (parts.map fun (i,x)=>(i,a.eval x))).run x.P w=.ok r w/\RE g w y r:=by
 unfold uS at h
 split at h
 ·rename_i n fs z hk
  obtain ⟨fields,i,zv,a1,a2,a3,a4,a5,a6,a7,a8,a9⟩:=tk_st hk;split at h
  ·rename_i ob' r h'
   injection h with h;injection h with e1 e2
   subst e1 e2;have hz:RCs g w z zv.toList:=by rw [a7];exact dv_RCs _ _ _ a6
   have hm:fields.toList.mapM (fun f=>(x.P.info? f.type).map fun i=>(f.offset,i.size))=some (fields.toList.map fun f=>(f.offset,szT x.P f.type)):=by
    have key:∀ l:List Field,(∀ f∈l,szT x.P f.type≠0)->l.mapM (fun f=>(x.P.info? f.type).map fun i=>(f.offset,i.size))=some (l.map fun f=>(f.offset,szT x.P f.type)):=by
     intro l
     induction l with
     | nil=>intro _;rfl
     | cons f l ih=>
      intro hl;have hf:=hl f (by simp)
      have hs:(x.P.info? f.type).map (fun i=>(f.offset,i.size))=some (f.offset,szT x.P f.type):=by
       unfold szT at hf ⊢
       cases hi:x.P.info? f.type with
       | none=>rw [hi] at hf;exact absurd rfl hf
       | some i=>rfl
      rw [List.mapM_cons,hs,ih (fun y hy=>hl y (by simp [hy]))];rfl
    exact key _ (fun f hf=>(a9 f hf).1)
   obtain ⟨cs',r1,r2⟩:=xaH hr (place:=fun i=>(fields.toList.map fun f=>(f.offset,szT x.P f.type)).toArray[i]?) (fun i off sz ag hi=>by
    rw [a8,List.getElem?_map] at hi
    rw [List.getElem?_toArray,List.getElem?_map];cases hj:fields.toList[i]? with
    | none=>rw [hj] at hi;cases hi
    | some f=>
     rw [hj] at hi
     injection hi with hi
     injection hi with h1 h2
     injection h2 with h2 h3
     rw [<- h1,<- h2];rfl) parts.toList z zv ob' r h' ho hz
   refine ⟨.agg cs',run_build w t _ cs' ?_,cs'.toList,rfl,r2⟩;unfold Program.built;simp only [a2,a1,a4,hm,Value.cells];rw [<- r1]
   congr 1
   simp
  ·cases h
 ·cases h
def idO:Option Nat->List Nat->List Nat
 | none,l=>l
 | some a,l=>a::l
def idsC:List D->List Nat
 | []=>[]
 | c::l=>idO (idC c) (idsC l)
def nodB:List Nat->Bool
 | []=>true
 | a::l=>pOut l a&&nodB l
def tgtC:List D->Nat->Nat
 | [],_=>0
 | c::l,id=>if idC c=some id then 0 else tgtC l id+1
theorem vw{l:List D}{q:Nat}{c:D}{id:Nat}(h:l[q]?=some c)(hc:idC c=some id):id∈idsC l:=by
 induction l generalizing q with
 | nil=>simp at h
 | cons d l ih=>
  simp only [idsC];cases q with
  | zero=>simp at h;subst h;rw [hc];simp [idO]
  | succ q=>
   have:=ih (q:=q) (by simpa using h)
   cases idC d<;>simp [idO,this]
theorem Qg{l:List D}{q:Nat}{c:D}{id:Nat}(hn:nodB (idsC l)=true)(h:l[q]?=some c)(hc:idC c=some id):tgtC l id=q:=by
 induction l generalizing q with
 | nil=>simp at h
 | cons d l ih=>
  simp only [tgtC];cases q with
  | zero=>simp at h;subst h;rw [if_pos hc]
  | succ q=>
   have h':l[q]?=some c:=by simpa using h
   simp only [idsC] at hn
   by_cases e:idC d=some id
   ·exfalso
    rw [e] at hn
    simp only [idO,nodB,Bool.and_eq_true] at hn
    exact xy hn.1 id (vw h' hc) rfl
   ·rw [if_neg e,ih ?_ h']
    cases hd:idC d with
    | none=>rw [hd] at hn;exact hn
    | some a=>rw [hd] at hn;simp only [idO,nodB,Bool.and_eq_true] at hn;exact hn.2
def fdL(σ:St):List D->Option (Prop×List D)
 | []=>some (True,[])
 | c::l=>match fdC σ c,fdL σ l with
  | some (o1,d),some (o2,ds)=>some (o1/\o2,d::ds)
  | _,_=>none
theorem fdL_ok{x:Cx}{g:Gh}{σ:St}{a:Act}{w:World}(hr:Rel x g σ a w):∀ (l:List D) (ob:Prop) (ds:List D) (us:List Value),fdL σ l=some (ob,ds)->ob->RCs g w l us ->
  ds.length=l.length/\∀ (j:Nat) (c d:D) (u:Value),l[j]?=some c->ds[j]?=some d->us[j]?=some u->(idC c=none/\Rep g.S g.up w none d u)\/∃ id,idC c=some id/\Rep g.S g.up w (some (.root id)) d u
 | [],ob,ds,us,h,ho,hu=>by injection h with h;injection h with e1 e2;subst e2;exact ⟨rfl,fun j c d u q=>by simp at q⟩
 | c::l,ob,ds,us,h,ho,hu=>by
  unfold fdL at h
  split at h
  ·rename_i o1 d o2 ds' h1 h2
   injection h with h;injection h with e1 e2
   subst e1 e2;obtain ⟨l1,l2⟩:=hu
   match us,l1 with
   | u::us,l1=>
    obtain ⟨i1,i2⟩:=fdL_ok hr l o2 ds' us h2 ho.2 ⟨by simpa using l1,fun j y u a b=>l2 (j+1) y u (by simpa using a) (by simpa using b)⟩
    refine ⟨by simp [i1],fun j c' d' u' q1 q2 q3=>?_⟩
    cases j with
    | zero=>simp at q1 q2 q3;subst q1 q2 q3;exact Yz hr h1 ho.1 (l2 0 _ _ rfl rfl)
    | succ j=>exact i2 j c' d' u' (by simpa using q1) (by simpa using q2) (by simpa using q3)
  ·cases h
def vF(σ:St)(k:Nat):Nat->List (Nat×Operand)->Option (Prop×List (List D)×List D)
 | _,[]=>some (True,[],[])
 | j,(i,x)::rest=>match vS (xz (ev σ x)) with
  | some xs=>match fdL σ xs,vF σ k (j+1) rest with
   | some (o1,ds),some (ob,rs,raw)=>some (oblT (ev σ x)/\i=j/\xs.length=k/\o1/\ob,ds::rs,xs++raw)
   | _,_=>none
  | none=>none
theorem xaK{x:Cx}{g:Gh}{σ:St}{a:Act}{w:World}(hr:Rel x g σ a w){k:Nat} :
  ∀ (parts:List (Nat×Operand)) (j:Nat) (ob:Prop) (rs:List (List D)) (raw:List D),vF σ k j parts=some (ob,rs,raw)->ob->∀ (cs:Array Value),cs.size=(j+parts.length)*k ->
   ∃ cs' vals,Instr.fill (fun i=>some (i*k,k)) cs (parts.map fun p=>(p.1,a.eval p.2))=some cs'/\cs'.toList=cs.toList.take (j*k)++vals/\rs.length=parts.length/\vals.length=rs.length*k/\raw.length=rs.length*k /\
    (∀ (i:Nat) (row:List D),rs[i]?=some row->row.length=k) /\
    ∀ (i l:Nat) (row:List D) (d:D),rs[i]?=some row->row[l]?=some d->∃ u c,vals[i*k+l]?=some u/\raw[i*k+l]?=some c/\((idC c=none/\Rep g.S g.up w none d u)\/∃ id,idC c=some id/\Rep g.S g.up w (some (.root id)) d u)
 | [],j,ob,rs,raw,h,ho,cs,hcs=>by
  injection h with h;injection h with e1 e2;injection e2 with e2 e3
  subst e2 e3;exact ⟨cs,[],rfl,by rw [List.append_nil,List.take_of_length_le (by rw [Array.length_toList,hcs];simp)],rfl,by simp,by simp,by simp,by simp⟩
 | (i,y)::rest,j,ob,rs,raw,h,ho,cs,hcs=>by
  unfold vF at h
  split at h
  ·rename_i xs hx
   split at h
   ·rename_i o1 ds ob' rs' raw' hf h'
    injection h with h;injection h with e1 e2;injection e2 with e2 e3
    subst e1 e2 e3;obtain ⟨o1,rfl,o3,o4,o5⟩:=ho;have hb:=uD hx (zP (Xj hr y) o1);obtain ⟨f1,f2⟩:=fdL_ok hr _ _ _ _ hf o4 hb;have hvl:(a.eval y).cells.toList.length=k:=by rw [hb.1,o3]
    have hvl':(a.eval y).cells.size=k:=by rw [<- Array.length_toList];exact hvl
    simp only [List.length_cons] at hcs
    have hle:i*k+k<=cs.size:=by
     rw [hcs,show i*k+k=(i+1)*k by rw [Nat.add_mul,Nat.one_mul]];exact Nat.mul_le_mul_right _ (by omega)
    have hcl:cs.toList.length=cs.size:=Array.length_toList;have hll:(lay cs.toList (i*k) (a.eval y).cells.toList).length=cs.size:=by rw [lay_len (by omega),hcl]
    obtain ⟨cs',vals,r1,r2,r3,r4,r5,r6,r7⟩:=xaK hr rest (i+1) ob' rs' raw' h' o5 (lay cs.toList (i*k) (a.eval y).cells.toList).toArray (by rw [List.size_toArray,hll,hcs];congr 1;omega)
    have hsucc:∀ q l,(q+1)*k+l=k+(q*k+l):=fun q l=>by rw [Nat.add_mul,Nat.one_mul];omega
    refine ⟨cs',(a.eval y).cells.toList++vals,?_,?_,by simp [r3],by rw [List.length_append,hvl,r4,List.length_cons,Nat.add_mul,Nat.one_mul];omega,by rw [List.length_append,o3,r5,List.length_cons,Nat.add_mul,Nat.one_mul];omega,fun q row hq=>?_,fun q l row d hq hl=>?_⟩
    ·rw [List.map_cons,QL (v:=a.eval y) rfl hvl' hle]
     exact r1
    ·rw [r2]
     unfold lay;have t1:(cs.toList.take (i*k)).length=i*k:=by rw [List.length_take];omega
     have t2:(cs.toList.take (i*k)++(a.eval y).cells.toList).length=(i+1)*k:=by rw [List.length_append,t1,hvl,Nat.add_mul,Nat.one_mul]
     rw [<- t2];simp only [List.toList_toArray];rw [List.take_left,List.append_assoc]
    ·cases q with
     | zero=>simp at hq;subst hq;rw [f1,o3]
     | succ q=>exact r6 q row (by simpa using hq)
    ·cases q with
     | zero=>
      simp at hq
      subst hq;have hlt:l<k:=by have:=(List.getElem?_eq_some_iff.1 hl).1;omega
      have hc:xs[l]?=some (xs[l]'(by omega)):=List.getElem?_eq_getElem (by omega)
      have hu:(a.eval y).cells.toList[l]?=some ((a.eval y).cells.toList[l]'(by omega)):=List.getElem?_eq_getElem (by omega)
      refine ⟨_,_,?_,?_,f2 l _ d _ hc hl hu⟩
      ·rw [Nat.zero_mul,Nat.zero_add,List.getElem?_append_left (by omega)];exact hu
      ·rw [Nat.zero_mul,Nat.zero_add,List.getElem?_append_left (by omega)];exact hc
     | succ q=>
      obtain ⟨u,c,q1,q2,q3⟩:=r7 q l row d (by simpa using hq) hl
      refine ⟨u,c,?_,?_,q3⟩
      ·rw [hsucc,List.getElem?_append_right (by omega),hvl,Nat.add_sub_cancel_left];exact q1
      ·rw [hsucc,List.getElem?_append_right (by omega),o3,Nat.add_sub_cancel_left];exact q2
   ·cases h
  ·cases h
theorem lit_run{x:Cx}{g:Gh}{σ:St}{a:Act}{w:World}(hr:Rel x g σ a w){t e k by_ len:Nat}{z:List D}(hk:tk x.P t=.sl e k by_ z){o:Oper}{parts:Array (Nat×Operand)}(hop:o.op=.buildSlice t len parts){ob':Prop}{rows:List (List D)}{raw:List D}(h':vF σ k 0 parts.toList=some (ob',rows,raw))(o1:ob')(o2:parts.toList.length=len)(o3:len*k<=16777216) :
  ∃ vals:List Value,rows.length<=maxLen/\vals.length=rows.length*k/\(∀ (i:Nat) (row:List D),rows[i]?=some row->row.length=k) /\
   (∀ (i l:Nat) (row:List D) (d:D),rows[i]?=some row->row[l]?=some d->∃ u c,vals[i*k+l]?=some u/\raw[i*k+l]?=some c/\((idC c=none/\Rep g.S g.up w none d u)\/∃ id,idC c=some id/\Rep g.S g.up w (some (.root id)) d u)) /\
   (execOp a.eval o).run x.P w=.ok (.value (.slice (some ⟨w.heap.size,0,none⟩) rows.length rows.length)) (w.alloc (.cells vals.toArray e)):=by
 obtain ⟨hu1,i,zv,q1,q2,q3,q4,q5,q6,q7,q8,-⟩:=zF hk;obtain ⟨cs',vals,r1,r2,r3,r4,r5,r6,r7⟩:=xaK hr parts.toList 0 ob' rows raw h' o1 ((Array.range (len*k)).map (zv.cells[· % zv.cells.size]!)) (by rw [o2];simp)
 rw [Nat.zero_mul,List.take_zero,List.nil_append] at r2
 refine ⟨vals,by rw [r3,o2];unfold maxLen;have:=Nat.le_mul_of_pos_right len q6;omega,r4,r6,r7,?_⟩
 have hcs:cs'=vals.toArray:=Array.ext' (by rw [r2])
 subst hcs;have hlen:rows.length=len:=by rw [r3,o2]
 have r1':Instr.fill (fun i=>some (i*k,k)) ((Array.range (len*k)).map (zv.cells[· % zv.cells.size]!)) (parts.map fun (i,x)=>(i,a.eval x)).toList=some vals.toArray:=by rw [<- r1];simp
 simp only [execOp,hop,Instr.buildSlice,Sem.run_bind,run_underlying hu1,Result.andThen_ok,zZ hk];rw [if_neg (by omega)]
 by_cases hz:len*k=0
 ·have hl0:len=0:=by
   rcases Nat.mul_eq_zero.1 hz with q|q
   ·exact q
   ·omega
  subst hl0;have hp0:parts.toList=[]:=List.eq_nil_of_length_eq_zero o2;have hp0':parts=#[]:=Array.ext' hp0;subst hp0';have hv0:vals=[]:=List.eq_nil_of_length_eq_zero (by rw [r4,hlen];simp)
  subst hv0
  simp [Instr.fill,newRow,hlen,go_sem]
 ·rw [if_neg hz]
  have hzv:(zeroValue e).run x.P w=.ok zv w:=by simp [zeroValue,typeInfo,q1,q2]
  simp only [Sem.run_bind,hzv,Sem.run_pure,Result.andThen_ok,r1']
  simp [newRow,hlen]
theorem WG{q1 q2:Nat->Bool}(h:∀ i,q2 i=true->q1 i=true)(y:D):scC q2 (scC q1 y)=scC q2 y:=by
 cases y with
 | bx id o=>by_cases hq:q1 id=true<;>simp [scC,hq]<;>(cases hr:q2 id<;>first|rfl|exact absurd (h _ hr) hq)
 | el id k i o=>by_cases hq:q1 id=true<;>simp [scC,hq]<;>(cases hr:q2 id<;>first|rfl|exact absurd (h _ hr) hq)
 | bs id k n=>by_cases hq:q1 id=true<;>simp [scC,hq]<;>(cases hr:q2 id<;>first|rfl|exact absurd (h _ hr) hq)
 | _=>rfl
theorem Ys{q1 q2:Nat->Bool}(h:∀ i,q2 i=true->q1 i=true)(l:List D):(l.map (scC q1)).map (scC q2)=l.map (scC q2):=by
 rw [List.map_map];exact List.map_congr_left fun y _=>WG h y
theorem Qc{q1 q2:Nat->Bool}(h:∀ i,q2 i=true->q1 i=true)(y:D):scE q2 (scE q1 y)=scE q2 y:=by
 have hcc:=WG h;cases y with
 | ag xs=>simp only [scE,Ys h]
 | bx id o=>have:=hcc (.bx id o);by_cases hq:q1 id=true<;>simp only [scE,scC,hq,if_true,if_false,Bool.false_eq_true] at this ⊢ <;> exact this
 | el id k i o=>have:=hcc (.el id k i o);by_cases hq:q1 id=true<;>simp only [scE,scC,hq,if_true,if_false,Bool.false_eq_true] at this ⊢ <;> exact this
 | bs id k n=>have:=hcc (.bs id k n);by_cases hq:q1 id=true<;>simp only [scE,scC,hq,if_true,if_false,Bool.false_eq_true] at this ⊢ <;> exact this
 | _=>rfl
theorem scT_e{q:Nat->Bool}{y:D}(h1:∀ xs,y≠.tup xs)(h2:∀ c x,y≠.mb c x):scT q y=scE q y:=by
 cases y<;>first|rfl|exact absurd rfl (h1 _)|exact absurd rfl (h2 _ _)
theorem scE_ne{q:Nat->Bool}(y:D)(h1:∀ xs,y≠.tup xs)(h2:∀ c x,y≠.mb c x):(∀ xs,scE q y≠.tup xs)/\∀ c x,scE q y≠.mb c x:=by
 cases y<;>first|exact absurd rfl (h1 _)|exact absurd rfl (h2 _ _)|(simp only [scE,scC];first|(split<;>exact ⟨fun _=>(by simp),fun _ _=>(by simp)⟩)|exact ⟨fun _=>(by simp),fun _ _=>(by simp)⟩)
theorem scT_scT{q1 q2:Nat->Bool}(h:∀ i,q2 i=true->q1 i=true)(y:D):scT q2 (scT q1 y)=scT q2 y:=by
 by_cases h1:∀ xs,y≠.tup xs
 ·by_cases h2:∀ c x,y≠.mb c x
  ·obtain ⟨n1,n2⟩:=scE_ne (q:=q1) y h1 h2
   rw [scT_e h1 h2,scT_e n1 n2,Qc h,scT_e h1 h2]
  ·simp only [ne_eq,Classical.not_forall,Classical.not_not] at h2
   obtain ⟨c,x,rfl⟩:=h2;simp only [scT,Qc h]
 ·simp only [ne_eq,Classical.not_forall,Classical.not_not] at h1
  obtain ⟨xs,rfl⟩:=h1;simp only [scT,List.map_map]
  congr 1
  exact List.map_congr_left fun y _=>Qc h y
theorem scO_scO{q1 q2:Nat->Bool}(h:∀ i,q2 i=true->q1 i=true)(o:Ob):scO q2 (scO q1 o)=scO q2 o:=by
 cases o with
 | box row=>simp only [scO,Ys h]
 | arr e k rows=>rfl
 | hol e k rows i c r=>simp only [scO,WG h]
 | rw e k rows i rr=>simp only [scO,Ys h]
theorem Qj(σ:St)(d:Nat)(ids:List Nat)(o1 o:Ob):(((σ.sc (pOut [d]) (pOut [d])).setB d o1).sc (pOut (d::ids)) (pOut (d::ids))).setB d o=(σ.sc (pOut (d::ids)) (pOut (d::ids))).setB d o:=by
 have hq:∀ i,pOut (d::ids) i=true->pOut [d] i=true:=fun i hi=>by
  simp only [pOut,Bool.and_eq_true] at hi ⊢;exact ⟨hi.1,trivial⟩
 unfold St.setB St.sc
 congr 1
 ·funext i;exact scT_scT hq _
 ·funext i
  by_cases e:i=d
  ·simp [e]
  ·simp only [if_neg e]
   by_cases hr:pOut (d::ids) i=true
   ·rw [if_pos hr,if_pos hr,if_pos (hq i hr)]
    cases σ.b i with
    | none=>rfl
    | some o'=>simp only [Option.map_some];rw [scO_scO hq]
   ·rw [if_neg hr,if_neg hr]
theorem Rel.forget{x:Cx}{g:Gh}{σ:St}{a:Act}{w:World}(h:Rel x g σ a w)(l:List Nat):Rel x g (σ.sc (pOut l) (pOut l)) a w:=by
 have ev:Ev (fun _=>True) (fun p=>p) (pOut l) (pOut l) g g w w:=⟨⟨fun b hb=>⟨hb,rfl⟩,fun b p hb _=>⟨hb,rfl⟩,fun b p o _ _=>⟨trivial,rfl⟩⟩,fun i hi=>⟨rfl,rfl⟩,fun i hi=>⟨hi,trivial,rfl⟩⟩
 exact h.ev ev (Below.refl _ _) (fun b _ _=>rfl) (fun b _ hs=>.inl hs) h.new h.own
def srcK(σ:St)(k:Nat):D->Option (Prop×List (List D)×List Nat)
 | .nil=>some (True,[],[])
 | .sl k' rows=>some (k'=k,rows,[])
 | .bs id k' n=>match σ.b id with
  | some (.arr _ k'' rows)=>some (k'=k/\k''=k/\n<=rows.length,rows.take n,[id])
  | _=>none
 | _=>none
theorem srcK_ok{x:Cx}{g:Gh}{σ:St}{a:Act}{w:World}(hr:Rel x g σ a w){k:Nat}(hk:0<k){y:D}{ob:Prop}{rows:List (List D)}{ids:List Nat}(h:srcK σ k y=some (ob,rows,ids))(ho:ob){u:Value}(hu:RE g w y u) :
  ∃ ad c,u=.slice ad rows.length c/\(0<rows.length->∃ p vals src,ad=some p/\Src g w k rows vals src/\(∀ b,src=some b->∃ m∈ids,g.up b=some (.root m))/\∀ j v,vals[j]?=some v->w.cell? (p.add j)=some v):=by
 unfold srcK at h
 split at h
 ·injection h with h;injection h with e1 e2;injection e2 with e2 e3
  subst e2 e3;have hu:Rep g.S g.up w none .nil u:=hu;cases hu;exact ⟨none,0,rfl,fun q=>by simp at q⟩
 ·injection h with h;injection h with e1 e2;injection e2 with e2 e3
  subst e1 e2 e3;obtain rfl:=ho;have hu:Rep g.S g.up w none (.sl _ _) u:=hu;obtain ⟨ad,c,rfl,-,-⟩:=hu.sl_shape;refine ⟨ad,c,rfl,fun hn=>?_⟩
  obtain ⟨p,vals,rfl,-,hS,hc⟩:=hu.vals hk hn;exact ⟨p,vals,none,rfl,hS,fun b q=>(by cases q),hc⟩
 ·rename_i id k' n
  split at h
  ·rename_i e k'' rows' hb
   injection h with h;injection h with e1 e2;injection e2 with e2 e3
   subst e1 e2 e3;obtain ⟨rfl,rfl,hn⟩:=ho;obtain ⟨rfl,u1,u2,u3⟩:=hu;have hl:(rows'.take n).length=n:=by rw [List.length_take];omega
   refine ⟨_,_,by rw [hl],fun hp=>?_⟩
   have hR:Rep g.S g.up w (some (.root id)) (.osl e k'' (rows'.take n)) (.slice ((g.β id).map fun b=>⟨b,0,none⟩) n (g.κ id)):=Rep.osl_take (hr.ob id _ hb) n hn
   cases hβ:g.β id with
   | none=>have:=u3 hβ;omega
   | some b=>
    rw [hβ,Option.map_some] at hR
    obtain ⟨h1,vals,h2,h3⟩:=hR.ovals hl.symm;exact ⟨_,vals,some b,rfl,h2,fun b' q=>by injection q with q;subst q;exact ⟨id,by simp,h1⟩,h3⟩
  ·cases h
 ·cases h
theorem Rel.append{x:Cx}{g:Gh}{σ:St}{a:Act}{w:World}(h:Rel x g σ a w){t ty e k by_:Nat}{z:List D}(hk:tk x.P t=.sl e k by_ z){id n:Nat}{rows rows':List (List D)}{ids:List Nat}(hb:σ.b id=some (.arr e k rows))(hn:n<=rows.length)(hid:pOut ids id=true)(nid:Nat)(hnP:isP nid=false){ad:Option Addr}{c:Nat}
  (hs:0<rows'.length->∃ p vals src,ad=some p/\Src g w k rows' vals src/\(∀ b,src=some b->∃ m∈ids,g.up b=some (.root m))/\∀ j v,vals[j]?=some v->w.cell? (p.add j)=some v)
  (hroom:(n+rows'.length)*by_<=140737488355328) (hmax:n+rows'.length<=maxLen) {v:Value} (hv:RC g w none (.bs id k n) v) :
  ∃ v' w' g',(Builtin.append_ #[t,t] ty #[v,.slice ad rows'.length c]).run x.P w=.ok v' w'/\Rel x g' ((σ.sc (pOut (nid::id::ids)) (pOut (nid::id::ids))).setB nid (.arr e k (rows.take n++rows'))) a w'/\RC g' w' none (.bs nid k (n+rows'.length)) v':=by
 rcases Nat.eq_zero_or_pos rows'.length with hm|hm
 ·have hr0:rows'=[]:=List.eq_nil_of_length_eq_zero hm
  subst hr0;obtain ⟨ht,i,zv,hi,hz,hsz,hby,hzs,hk0,hz1,-,-⟩:=zF hk;obtain ⟨rfl,v1,v2,v3⟩:=hv;have hrun:=Vx w t ty e i ht hi ((g.β id).map fun b=>⟨b,0,none⟩) n (g.κ id) v1 ad c
  have hR0:Rep g.S g.up w (some (.root id)) (.osl e k rows) (.slice ((g.β id).map fun b=>⟨b,0,none⟩) rows.length (g.κ id)):=h.ob id _ hb
  cases hβ:g.β id with
  | none=>
   have hκ:=v3 hβ;have hn0:n=0:=by omega
   subst hn0;rw [hβ,hκ] at hrun
   obtain ⟨g1,n1,n2,n3,n4,n5⟩:=h.void nid e k hnP;have h2:=(n4.forget (nid::id::ids)).setB (id:=nid) (o:=.arr e k []) (n4.ob nid _ (by simp [St.setB])) (fun q=>by rw [hnP] at q;cases q)
   rw [Qj] at h2
   refine ⟨_,w,g1,by simpa [hκ] using hrun,by simpa using h2,n5⟩
  | some bo=>
   rw [hβ,Option.map_some] at hR0 hrun
   cases hR0 with
   | @osl _ _ _ _ _ _ cs q1 q2 q3 q4 q5 q6 q7=>
    obtain ⟨g',r1,r2⟩:=h.regrow (rows':=[]) (vals:=[]) (src:=none) (ids:=ids) hb hn (fun q=>xy hid id q rfl) nid hnP (fun b q=>(by cases q)) ⟨by simp,by simp,by simp⟩ bo cs (g.κ id) (.inr hβ) (fun _ _ _=>rfl) (Below.refl _ _) (h.own bo _ q1).1 q2 (by simpa using v1) v2 q5 (fun b cs0 hb' hc0 j _=>by
     rw [hβ] at hb';injection hb' with hb';subst hb'
     rw [q2] at hc0;injection hc0 with hc0;injection hc0 with hc0;subst hc0;rfl) (fun j u hj=>by simp at hj)
    exact ⟨_,w,g',hrun,r1,r2⟩
 ·obtain ⟨p,vals,src,rfl,hS,hsrc,hc⟩:=hs hm
  exact h.appendPos hk hb hn (fun q=>xy hid id q rfl) nid hnP hsrc hS p c hc hm hroom hmax hv
def nmA(d id:Nat):Nat:=if isP id=true then d else id
def aop2(P:Program)(σ:St)(dst:Option Tmp):Op->Option (Prop×D×St)
 | .alloc t=>match dst,ck P t with
  | some d,some (_,_,z)=>some (True,.bx d 0,(σ.sc (pOut [d]) (pOut [d])).setB d (.box z))
  | _,_=>none
 | .box t x=>match dst,vS (xz (ev σ x)) with
  | some d,some row=>some (oblT (ev σ x),.bx d 0,(σ.sc (pOut [d]) (pOut [d])).setB d (.box (row.map (scC (pOut [d])))))
  | _,_=>none
 | .store t p v=>match dst,vS (xz (ev σ v)),ck P t with
  | none,some xs,some (_,n,_)=>match xz (ev σ p) with
   | .bx id off=>match σ.b id with
    | some (.box row)=>some (oblT (ev σ p)/\oblT (ev σ v)/\xs.length=n/\off+xs.length<=row.length,.un,σ.setB id (.box (lay row off xs)))
    | _=>none
   | .el id k i off=>match σ.b id,fdL σ xs with
    | some (.arr e k' rows),some (ob,ds)=>some (oblT (ev σ p)/\oblT (ev σ v)/\k'=k/\xs.length=n/\off+xs.length<=k/\i<rows.length/\ob/\nodB (idsC xs)=true/\pOut (idsC xs) id=true,
      .un,(σ.sc (pOut (idsC xs)) (pOut (idsC xs))).setB id (.arr e k (rows.set i (lay (rows.getD i []) off ds))))
    | some (.hol e k' rows i0 c0 _),some _=>match xs with
     | [d]=>some (oblT (ev σ p)/\oblT (ev σ v)/\k'=k/\n=1/\i=i0/\off=c0,.un,σ.setB id (.hol e k' rows i0 c0 d))
     | _=>none
    | _,_=>none
   | _=>none
  | _,_,_=>none
 | .build t parts=>match uS P σ t parts with
  | some (ob,y)=>some (ob,y,σ)
  | none=>none
 | .makeSlice t l c=>match dst,tk P t,intE (xz (ev σ l)),intE (xz (ev σ c)) with
  | some d,.sl e k by_ z,some (_,n),some (_,m)=>some (oblT (ev σ l)/\oblT (ev σ c)/\m=n/\0<=n/\by_*n<=281474976710656/\n<=281474976710656,
    .bs d k n.toNat,(σ.sc (pOut [d]) (pOut [d])).setB d (.arr e k (List.replicate n.toNat z)))
  | _,_,_,_=>none
 | .buildSlice t len parts=>match dst,tk P t with
  | some d,.sl e k _ _=>match vF σ k 0 parts.toList with
   | some (ob,rows,raw)=>some (ob/\parts.toList.length=len/\len*k<=16777216/\nodB (idsC raw)=true,.bs d k rows.length,(σ.sc (pOut (d::idsC raw)) (pOut (d::idsC raw))).setB d (.arr e k rows))
   | none=>none
  | _,_=>none
 | .call ⟨.builtin .append,args,ts⟩=>match dst,args.toList,ts.toList with
  | some d,[s,x],[t,t']=>match tk P t with
   | .sl e k by_ _=>match srcK σ k (xz (ev σ x)) with
    | some (ob,rows',ids)=>match xz (ev σ s) with
     | .bs id k' n=>match σ.b id with
      | some (.arr e' k'' rows)=>some (t'=t/\oblT (ev σ s)/\oblT (ev σ x)/\e'=e/\k'=k/\k''=k/\n<=rows.length/\ob/\pOut ids id=true/\(n+rows'.length)*by_<=140737488355328/\n+rows'.length<=140737488355328,
        .bs (nmA d id) k (n+rows'.length),(σ.sc (pOut (nmA d id::id::ids)) (pOut (nmA d id::id::ids))).setB (nmA d id) (.arr e k (rows.take n++rows')))
      | _=>none
     | .nil=>some (t'=t/\oblT (ev σ s)/\oblT (ev σ x)/\ob/\pOut ids d=true/\rows'.length*by_<=140737488355328/\rows'.length<=140737488355328,
        .bs d k rows'.length,(σ.sc (pOut (d::ids)) (pOut (d::ids))).setB d (.arr e k rows'))
     | _=>none
    | none=>none
   | _=>none
  | _,_,_=>none
 | _=>none
theorem RC.scOut{g:Gh}{w:World}{l:List Nat}{p:Option Pos}{y:D}{v:Value}(h:RC g w p y v):RC g w p (scC (pOut l) y) v:=by
 have one:=h.one;cases y<;>first|exact h|(simp only [scC];split;exact h;exact one)
theorem aop2_ok{x:Cx}{σ σ':St}{o:Oper}{ob:Prop}{y:D}(h:aop2 x.P σ o.dst o.op=some (ob,y,σ'))(ho:ob)(hdP:∀ d,o.dst=some d->isP d=false){g:Gh}{a:Act}{w:World}(hr:Rel x g σ a w) :
  ∃ w' g',Rel x g' σ' a w'/\((∃ r,(execOp a.eval o).run x.P w=.ok (.value r) w'/\RT g' w' y r)\/((execOp a.eval o).run x.P w=.ok .skip w'/\y=.un)):=by
 have hev:=Xj hr;have hb:∀ z,oblT (ev σ z)->RE g w (xz (ev σ z)) (a.eval z):=fun z hz=>zP (hev z) hz
 unfold aop2 at h
 split at h
 ·rename_i t hop
  split at h
  ·rename_i d ag n z hd hk
   injection h with h;injection h with e1 e2;injection e2 with e2 e3
   subst e2 e3;obtain ⟨-,⟨i,zv,h1,h2,h3,h4,h5,h6⟩,-⟩:=Wh hk;subst h6;obtain ⟨g',q1,q2⟩:=hr.newBox d (zv.cells.toList.map dv) zv.cells.toList t (dv_RCs _ _ _ h5) (fun y hy=>by
    obtain ⟨u,-,rfl⟩:=List.mem_map.1 hy;unfold dv;split<;>rfl) (hdP d hd)
   refine ⟨_,g',q1,.inl ⟨.pointer (some ⟨w.heap.size,0,none⟩),?_,(show RC g' _ none (.bx d 0) _ from ⟨_,q2,rfl⟩).re.rt⟩⟩
   simp [execOp,hop,Instr.alloc,zeroValue,typeInfo,h1,h3,newVar,newRow]
  ·cases h
 ·rename_i t z hop
  split at h
  ·rename_i d row hd hc
   injection h with h;injection h with e1 e2;injection e2 with e2 e3
   subst e1 e2 e3;have hrow:=uD hc (hb z ho);obtain ⟨g',q1,q2⟩:=hr.newBox d (row.map (scC (pOut [d]))) (a.eval z).cells.toList t ⟨by simp [hrow.1],fun j y u hy hu=>by
    rw [List.getElem?_map] at hy
    obtain ⟨y',h1,rfl⟩:=Option.map_eq_some_iff.1 hy;exact (hrow.2 j y' u h1 hu).scOut⟩ (fun y hy=>by
    obtain ⟨u,-,rfl⟩:=List.mem_map.1 hy;exact WG (fun _ h=>h) u) (hdP d hd)
   refine ⟨_,g',q1,.inl ⟨.pointer (some ⟨w.heap.size,0,none⟩),?_,(show RC g' _ none (.bx d 0) _ from ⟨_,q2,rfl⟩).re.rt⟩⟩
   simp [execOp,hop,Instr.box,newVar,newRow]
  ·cases h
 ·rename_i t p v hop
  split at h
  ·rename_i xs ag n z hd hv hk
   have run:∀ {b i:Nat} {w':World},a.eval p=.pointer (some ⟨b,i,none⟩)->(a.eval v).cells.toList.length=n->(storeCells ⟨b,i,none⟩ (a.eval v).cells.toList).run x.P w=.ok () w'->(execOp a.eval o).run x.P w=.ok .skip w':=by
    intro b i w' h1 h2 h3;simp only [execOp,hop,Instr.storeAt,h1,Instr.sureAddr,Sem.run_bind,Sem.run_pure,Result.andThen_ok,storeVar,ck_size hk];rw [if_neg (by simpa using h2),h3];rfl
   split at h
   ·rename_i id off hp
    split at h
    ·rename_i row hrow
     injection h with h;injection h with e1 e2;injection e2 with e2 e3
     subst e1 e2 e3;obtain ⟨o1,o2,o3,o4⟩:=ho;have hp':=hb p o1;rw [hp] at hp'
     obtain ⟨b,hβ,hp'⟩:=hp';have hxs:=uD hv (hb v o2);obtain ⟨w',s1,s2⟩:=hr.store id off row xs hrow _ hxs o4 hβ;exact ⟨w',g,s2,.inr ⟨run hp' (by rw [hxs.1,o3]) s1,rfl⟩⟩
    ·cases h
   ·rename_i id k i off hp
    split at h
    ·rename_i e k' rows ob' ds hrow hf
     injection h with h;injection h with e1 e2;injection e2 with e2 e3
     subst e1 e2 e3;obtain ⟨o1,o2,rfl,o3,o4,o5,o6,o7,o8⟩:=ho;have hp':=hb p o1;rw [hp] at hp'
     obtain ⟨b,hβ,hp'⟩:=hp';have hxs:=uD hv (hb v o2);obtain ⟨f1,f2⟩:=fdL_ok hr _ _ _ _ hf o6 hxs;obtain ⟨w',g',s1,s2⟩:=hr.storeArr id e k' i off rows ds hrow (a.eval v).cells.toList (idsC xs) (tgtC xs) o5 (by omega) (fun q=>xy o8 id q rfl) (by rw [hxs.1,f1]) (fun j y u hy hu=>by
      have hj:j<xs.length:=by rw [<- f1];exact (List.getElem?_eq_some_iff.1 hy).1
      rcases f2 j xs[j] y u (List.getElem?_eq_getElem hj) hy hu with ⟨-,q⟩|⟨m,q1,q2⟩
      ·exact .inl q
      ·exact .inr ⟨m,vw (List.getElem?_eq_getElem hj) q1,Qg o7 (List.getElem?_eq_getElem hj) q1,q2⟩) hβ
     exact ⟨w',g',s2,.inr ⟨run hp' (by rw [hxs.1,o3]) s1,rfl⟩⟩
    ·rename_i e k' rows i0 c0 r _ hrow hf
     split at h
     ·rename_i dd
      injection h with h;injection h with e1 e2;injection e2 with e2 e3
      subst e1 e2 e3;obtain ⟨o1,o2,rfl,rfl,rfl,rfl⟩:=ho;have hp':=hb p o1;rw [hp] at hp'
      obtain ⟨b,hβ,hp'⟩:=hp';have hxs:=uD hv (hb v o2);obtain ⟨w',s1,s2⟩:=hr.storeHol id e k' i off rows r dd hrow _ hxs hβ;exact ⟨w',g,s2,.inr ⟨run hp' (by rw [hxs.1];rfl) s1,rfl⟩⟩
     ·cases h
    ·cases h
   ·cases h
  ·cases h
 ·rename_i t parts hop
  split at h
  ·rename_i ob' y' h'
   injection h with h;injection h with e1 e2;injection e2 with e2 e3
   subst e1 e2 e3;obtain ⟨r,r1,r2⟩:=Ql hr h' ho;refine ⟨w,g,hr,.inl ⟨r,?_,r2.rt⟩⟩;simp only [execOp,hop,Sem.run_bind,r1];rfl
  ·cases h
 ·rename_i t l c hop
  split at h
  ·rename_i d e k by_ z kl n kc m hd hk hl hc
   injection h with h;injection h with e1 e2;injection e2 with e2 e3
   subst e1 e2 e3;obtain ⟨o1,o2,rfl,o4,o5,o6⟩:=ho;obtain ⟨hu1,i,zv,q1,q2,q3,q4,q5,q6,q7,q8,-⟩:=zF hk;have el:=Xs hl (hb l o1);have ec:=Xs hc (hb c o2);have hrun:=run_make (P:=x.P) w t e i zv hu1 q1 q2 kl kc m m o4 (Int.le_refl _) (by rw [q4];exact o5) (by omega)
   obtain ⟨g',r1,r2⟩:=hr.newArr (.inl rfl) d e k (List.replicate m.toNat z) (madeCells zv.cells (m.toNat*i.size)) m.toNat [] (fun _=>0) (by simp) (by unfold maxLen;omega) (by simp [madeCells,q3]) (hdP d hd) (fun i row hi=>by
    rw [List.getElem?_replicate] at hi
    split at hi
    ·injection hi with hi;subst hi;rw [q8];simpa using q5
    ·cases hi) (fun i' j row y' hi hj=>by
    rw [List.getElem?_replicate] at hi
    split at hi
    ·rename_i hlt
     injection hi with hi;subst hi
     left
     rw [q8,List.getElem?_map] at hj
     obtain ⟨u,hu,rfl⟩:=Option.map_eq_some_iff.1 hj;have hjk:j<k:=by rw [<- q5,<- Array.length_toList];exact (List.getElem?_eq_some_iff.1 hu).1
     have hlt':i'*k+j<m.toNat*k:=by
      have:(i'+1)*k<=m.toNat*k:=Nat.mul_le_mul_right _ hlt;rw [Nat.add_mul,Nat.one_mul] at this;omega
     have:(madeCells zv.cells (m.toNat*i.size)).getD (i'*k+j) undef=u:=by
      rw [q3,Array.getD_eq_getD_getElem?];simp only [madeCells,Array.getElem?_map];rw [Array.getElem?_range,if_pos hlt'];simp only [Option.map_some,Option.getD_some,q5];rw [Nat.add_comm,Nat.add_mul_mod_self_right,Nat.mod_eq_of_lt hjk,getElem!_pos zv.cells j (by omega)]
      rw [Array.getElem?_toList,Array.getElem?_eq_getElem (by omega)] at hu
      injection hu
     rw [this];exact dv_rep _ (q7 u (List.mem_of_getElem? hu))
    ·cases hi)
   rw [List.length_replicate] at r2
   refine ⟨_,g',r1,.inl ⟨_,?_,r2.re.rt⟩⟩;simp only [execOp,hop,el,ec,Sem.run_bind,hrun,Result.andThen_ok,Sem.run_pure]
  ·cases h
 ·rename_i t len parts hop
  split at h
  ·rename_i d e k by_ z hd hk
   split at h
   ·rename_i ob' rows raw h'
    injection h with h;injection h with e1 e2;injection e2 with e2 e3
    subst e1 e2 e3;obtain ⟨o1,o2,o3,o4⟩:=ho;obtain ⟨vals,r1,r2,r3,r4,r5⟩:=lit_run hr hk hop h' o1 o2 o3;obtain ⟨g',l1,l2⟩:=hr.newArr (.inl rfl) d e k rows vals.toArray rows.length (idsC raw) (tgtC raw) (Nat.le_refl _) r1 (by simpa using r2) (hdP d hd) r3 (fun i j row y' hi hj=>by
     obtain ⟨u,c,q1,q2,q3⟩:=r4 i j row y' hi hj;rw [Yq (u:=u) (by simpa using q1)]
     rcases q3 with ⟨-,q3⟩|⟨m,q3,q4⟩
     ·exact .inl q3
     ·exact .inr ⟨m,vw q2 q3,Qg o4 q2 q3,q4⟩)
    exact ⟨_,g',l1,.inl ⟨_,r5,l2.re.rt⟩⟩
   ·cases h
  ·cases h
 ·rename_i args ts hop
  split at h
  ·rename_i d s z t t' hd ha ht
   have ea:args=#[s,z]:=Array.ext' ha;have et:ts=#[t,t']:=Array.ext' ht;subst ea et;split at h
   ·rename_i e k by_ zz hk
    split at h
    ·rename_i ob' rows' ids hx
     have hk0:0<k:=by obtain ⟨_,i,zv,_,_,_,_,_,hk0,_⟩:=zF hk;exact hk0
     split at h
     ·rename_i id k' n hs
      split at h
      ·rename_i e' k'' rows hrow
       injection h with h;injection h with e1 e2;injection e2 with e2 e3
       subst e1 e2 e3;obtain ⟨rfl,o1,o2,rfl,rfl,rfl,o3,o4,o5,o6,o7⟩:=ho;have hs':=hb s o1;rw [hs] at hs'
       obtain ⟨ad,c,hu,hsr⟩:=srcK_ok hr hk0 hx o4 (hb z o2);obtain ⟨v',w',g',r1,r2,r3⟩:=hr.append (ty:=o.type) hk hrow o3 o5 (nmA d id) (by unfold nmA;split;exact hdP d hd;simp_all) (c:=c) hsr o6 (by unfold maxLen;omega) hs'
       refine ⟨w',g',r2,.inl ⟨v',?_,r3.re.rt⟩⟩;simp only [execOp,hop,resolve,invoke,builtin,Sem.run_bind,Sem.run_pure,Result.andThen_ok,List.map_toArray,List.map_cons,List.map_nil];rw [hu,r1];rfl
      ·cases h
     ·rename_i hs
      injection h with h;injection h with e1 e2;injection e2 with e2 e3
      subst e1 e2 e3;obtain ⟨rfl,o1,o2,o4,o5,o6,o7⟩:=ho;have hs':=hb s o1;rw [hs] at hs'
      have hs':a.eval s=.slice none 0 0:=by
       have:Rep g.S g.up w none .nil (a.eval s):=hs';generalize a.eval s=v at this
       cases this;rfl
      obtain ⟨ad,c,hu,hsr⟩:=srcK_ok hr hk0 hx o4 (hb z o2);obtain ⟨g1,n1,n2,n3,n4,n5⟩:=hr.void d e k (hdP d hd);obtain ⟨v',w',g',r1,r2,r3⟩:=n4.append (ty:=o.type) (n:=0) (rows:=[]) (ids:=ids) (c:=c) (ad:=ad) (rows':=rows') hk (by simp [St.setB]) (Nat.zero_le _) o5 d (hdP d hd) (fun hp=>by
       obtain ⟨p,vals,src,p1,p2,p3,p4⟩:=hsr hp;exact ⟨p,vals,src,p1,by unfold Src;rw [n1,n2];exact p2,by rw [n2];exact p3,p4⟩) (by simpa using o6) (by unfold maxLen;omega) n5
      rw [show pOut (d::d::ids)=pOut (d::ids) by funext i;simp [pOut],Qj,List.take_nil,List.nil_append] at r2
      rw [Nat.zero_add] at r3
      refine ⟨w',g',r2,.inl ⟨v',?_,r3.re.rt⟩⟩;simp only [execOp,hop,resolve,invoke,builtin,Sem.run_bind,Sem.run_pure,Result.andThen_ok,List.map_toArray,List.map_cons,List.map_nil,hs'];rw [hu,r1];rfl
     ·cases h
    ·cases h
   ·cases h
  ·cases h
 ·cases h
def u8R(b:UInt8):List D:=[.s (.int .u8 b.toNat)]
def strR(s:ByteArray):List (List D):=s.data.toList.map u8R
theorem xbQ(s:ByteArray):(strR s).length=s.size:=by unfold strR;rw [List.length_map,Array.length_toList];rfl
def rowB:List D->UInt8
 | [.s (.int .u8 n)]=>UInt8.ofNat n.toNat
 | _=>0
theorem rowB_u8(b:UInt8):rowB (u8R b)=b:=by simp [rowB,u8R]
def rowsB(rows:List (List D)):ByteArray:=⟨(rows.map rowB).toArray⟩
theorem rowsB_map(l:List UInt8):rowsB (l.map u8R)=⟨l.toArray⟩:=by
 unfold rowsB;rw [List.map_map]
 congr 2
 conv=>rhs;rw [<- List.map_id l]
 exact List.map_congr_left fun b _=>rowB_u8 b
theorem strSrc{g:Gh}{w:World}(s:ByteArray):Src g w 1 (strR s) (Lib.strCells s) none:=by
 refine ⟨by rw [Lib.strCells_length,xbQ];omega,fun i row h=>?_,fun i j row d h1 h2=>?_⟩
 ·unfold strR at h
  rw [List.getElem?_map] at h
  obtain ⟨b,-,rfl⟩:=Option.map_eq_some_iff.1 h
  rfl
 ·unfold strR at h1
  rw [List.getElem?_map] at h1
  obtain ⟨b,hb,rfl⟩:=Option.map_eq_some_iff.1 h1
  match j,h2 with
  | 0,h2=>
   have:D.s (.int .u8 b.toNat)=d:=by simpa [u8R] using h2
   subst this;refine ⟨.int .u8 b.toNat,?_,.inl (.i _ _)⟩;unfold Lib.strCells;rw [Nat.mul_one,Nat.add_zero,List.getElem?_map,hb];rfl
  | j+1,h2=>simp [u8R] at h2
theorem xbP(s:ByteArray):s.data.map (fun b=>Value.int .u8 b.toNat)=(Lib.strCells s).toArray:=by
 apply Array.ext'
 simp [Lib.strCells]
theorem Zp{P:Program}(w:World)(t u ty e:TypeId)(i:TypeInfo)(ht:P.underlying t=some (.slice e))(hu:P.underlying u=some .string)(hi:P.info? e=some i)(s:ByteArray)(hs:s.size=0) :
  (Builtin.append_ #[t,u] ty #[.slice none 0 0,.string s]).run P w=.ok (.slice none 0 0) w:=by
 have hd:s.data=#[]:=by
  have:s.data.size=0:=hs;exact Array.eq_empty_of_size_eq_zero this
 simp [Builtin.append_,run_underlying ht,run_underlying hu,sizeOf,typeInfo,hi,Builtin.lenOf,Builtin.firstCells,hs,hd]
theorem Rel.appendStr{x:Cx}{g:Gh}{σ:St}{a:Act}{w:World}(h:Rel x g σ a w){t u ty e by_:Nat}{z:List D}(hk:tk x.P t=.sl e 1 by_ z)(hu:x.P.underlying u=some .string){id n:Nat}{rows:List (List D)}(s:ByteArray)(hb:σ.b id=some (.arr e 1 rows))(hn:n<=rows.length)(nid:Nat)(hnP:isP nid=false)
  (hroom:(n+s.size)*by_<=140737488355328) (hmax:n+s.size<=maxLen) {v:Value} (hv:RC g w none (.bs id 1 n) v) :
  ∃ v' w' g',(Builtin.append_ #[t,u] ty #[v,.string s]).run x.P w=.ok v' w'/\Rel x g' ((σ.sc (pOut [nid,id]) (pOut [nid,id])).setB nid (.arr e 1 (rows.take n++strR s))) a w'/\RC g' w' none (.bs nid 1 (n+s.size)) v':=by
 obtain ⟨ht,i,zv,hi,hz,hsz,hby,hzs,hk0,hz1,-,-⟩:=zF hk;obtain ⟨rfl,v1,v2,v3⟩:=hv;have hR0:Rep g.S g.up w (some (.root id)) (.osl e 1 rows) (.slice ((g.β id).map fun b=>⟨b,0,none⟩) rows.length (g.κ id)):=h.ob id _ hb
 have hS:Src g w 1 (strR s) (Lib.strCells s) none:=strSrc s;have hsl:=xbQ s;have hvl:=Lib.strCells_length s;have hsmall:n+s.size<=9223372036854775807:=by simp only [maxLen] at hmax;omega
 have hpush:∀ (o:Obj) (b:Nat),b<w.heap.size->(w.drew.alloc o).heap[b]?=w.heap[b]?:=fun o b hb=>Below.heap_alloc w.drew _ _ hb
 have hsz1:∀ o:Obj,(w.drew.alloc o).heap.size=w.heap.size+1:=fun o=>by rw [zq];rfl
 have hid:id∉([]:List Nat):=by simp
 cases hβ:g.β id with
 | none=>
  have hn0:n=0:=by have:=v3 hβ;omega
  subst hn0;have hκ:=v3 hβ;simp only [Option.map_none,hκ];simp only [Nat.zero_add] at *
  by_cases hp:s.size=0
  ·have hrun:=Zp (P:=x.P) w t u ty e i ht hu hi s hp
   obtain ⟨g1,n1,n2,n3,n4,n5⟩:=h.void nid e 1 hnP;have h2:=(n4.forget [nid,id]).setB (id:=nid) (o:=.arr e 1 []) (n4.ob nid _ (by simp [St.setB])) (fun q=>by rw [hnP] at q;cases q)
   rw [Qj] at h2
   have h0:strR s=[]:=List.eq_nil_of_length_eq_zero (by rw [hsl,hp])
   rw [h0,hp];exact ⟨_,w,g1,hrun,by simpa using h2,n5⟩
  ·have hr:=run_append_nil_string (P:=x.P) w t u ty e i zv ht hu hi hz s (by omega) (by omega) (by rw [hby];omega)
   rw [xbP] at hr
   have hge:=grownCap_ge w s.size 0 e;obtain ⟨g',q1,q2⟩:=h.regrow (n:=0) hb (Nat.zero_le _) hid nid hnP (fun b q=>(by cases q)) hS w.heap.size ((Lib.strCells s).toArray++Builtin.zeroCells zv.cells (grownCap w s.size 0 e - s.size)) (grownCap w s.size 0 e) (.inl rfl)
    (w':=w.drew.alloc (.cells ((Lib.strCells s).toArray++Builtin.zeroCells zv.cells (grownCap w s.size 0 e - s.size)) e)) (fun b hb _=>hpush _ b hb) ((Below.refl _ _).drew.trans ((Below.refl _ _).alloc (Nat.zero_le _) _)) (by rw [hsz1];omega) (heap_alloc_new w.drew _) (by rw [hsl];omega) (grownCap_le_maxLen w _ 0 e hmax) (by
     simp only [Array.size_append,List.size_toArray,size_zeroCells,hzs,hvl,hsz,Nat.mul_one];omega) (fun b _ q=>by rw [hβ] at q;cases q) (fun j u hj=>by
     have:=VE [] (Lib.strCells s) zv.cells 0 (grownCap w s.size 0 e - s.size) j u rfl hj;rw [Nat.zero_mul];simpa using this)
   simp only [Nat.zero_add,hsl] at q1 q2
   exact ⟨_,_,g',hr,q1,q2⟩
 | some bo=>
  rw [hβ,Option.map_some] at hR0
  simp only [Option.map_some];cases hR0 with
  | @osl _ _ _ _ _ _ cs q1 q2 q3 q4 q5 q6 q7=>
   rw [Nat.mul_one] at q5
   have hle:n<=cs.size:=by rw [q5];exact v1
   by_cases hfit:n+s.size<=g.κ id
   ·have hr:=Lib.run_append_room_string (P:=x.P) w t u ty e i ht hu hi hsz bo n (g.κ id) cs q2 s hfit (by omega)
    generalize hnew:(cs.toList.take n++Lib.strCells s++cs.toList.drop (n+s.size)).toArray=cs' at hr
    have hcl:cs.toList.length=cs.size:=Array.length_toList;have hlay:cs'.toList=lay cs.toList (n*1) (Lib.strCells s):=by subst hnew;unfold lay;rw [Nat.mul_one,hvl]
    have hgd:∀ m,cs'.getD m undef=(lay cs.toList (n*1) (Lib.strCells s)).getD m undef:=fun m=>by
     rw [List.getD_eq_getElem?_getD,Array.getD_eq_getD_getElem?,<- hlay,Array.getElem?_toList]
    obtain ⟨g',r1,r2⟩:=h.regrow hb hn hid nid hnP (fun b q=>(by cases q)) hS bo cs' (g.κ id) (.inr hβ) (w':=w.setRow bo cs') (fun b _ hne=>setRow_other _ _ _ _ (fun e=>hne (by rw [hβ,e]))) ⟨rfl,rfl,rfl,by simp,fun c hc=>by omega⟩ (by
     rw [setRow_size];exact (h.own bo _ q1).1) (setRow_heap w bo cs _ e _ q2) (by rw [hsl];exact hfit) v2 (by rw [<- Array.length_toList,hlay,lay_len (by omega),hcl,Nat.mul_one];exact q5) (fun b cs0 hb' hc0 j hj=>by
      rw [hβ] at hb';injection hb' with hb';subst hb'
      rw [q2] at hc0;injection hc0 with hc0;injection hc0 with hc0;subst hc0
      rw [hgd,List.getD_eq_getElem?_getD,zx (by omega),if_neg (by omega),Array.getElem?_toList,<- Array.getD_eq_getD_getElem?]) (fun j u hj=>by
      have hl:=(List.getElem?_eq_some_iff.1 hj).1;rw [hgd,List.getD_eq_getElem?_getD,zx (by omega),if_pos (by omega),Nat.add_sub_cancel_left,hj];rfl)
    rw [hsl] at r2
    exact ⟨_,_,g',hr,r1,r2⟩
   ·have hcl:cs.toList.length=cs.size:=Array.length_toList
    have hol:(cs.toList.take n).length=n*i.size:=by rw [List.length_take,hsz];omega
    have hol1:(cs.toList.take n).length=n*1:=by rw [List.length_take];omega
    have holds:∀ j u,(cs.toList.take n)[j]?=some u->w.cell? ((⟨bo,0,none⟩:Addr).add j)=some u:=fun j u hj=>by
     have hlt:=(List.getElem?_eq_some_iff.1 hj).1;rw [hol1] at hlt
     rw [List.getElem?_take_of_lt (by omega),Array.getElem?_toList] at hj
     rw [add_lit];simp only [World.cell?,q2,Nat.zero_add];rw [if_neg (by simp)];exact hj
    have hr:=Lib.run_append_grow_string (P:=x.P) w t u ty e i zv ht hu hi hz ⟨bo,0,none⟩ n (g.κ id) _ hol holds s (by omega) (by omega) (growslice_fits (by omega) (by rw [hby];exact hroom))
    have hge:=grownCap_ge w (n+s.size) (g.κ id) e;obtain ⟨g',r1,r2⟩:=h.regrow hb hn hid nid hnP (fun b q=>(by cases q)) hS w.heap.size ((cs.toList.take n).toArray++(Lib.strCells s).toArray++Builtin.zeroCells zv.cells (grownCap w (n+s.size) (g.κ id) e - (n+s.size))) (grownCap w (n+s.size) (g.κ id) e) (.inl rfl)
     (w':=w.drew.alloc (.cells ((cs.toList.take n).toArray++(Lib.strCells s).toArray++Builtin.zeroCells zv.cells (grownCap w (n+s.size) (g.κ id) e - (n+s.size))) e)) (fun b hb _=>hpush _ b hb) ((Below.refl _ _).drew.trans ((Below.refl _ _).alloc (Nat.zero_le _) _)) (by rw [hsz1];omega) (heap_alloc_new w.drew _) (by rw [hsl];omega) (grownCap_le_maxLen w _ _ e hmax) (by
      simp only [Array.size_append,List.size_toArray,size_zeroCells,hzs,hvl,hol1,hsz,Nat.mul_one];omega) (fun b cs0 hb' hc0 j hj=>by
      rw [hβ] at hb';injection hb' with hb';subst hb'
      rw [q2] at hc0;injection hc0 with hc0;injection hc0 with hc0;subst hc0
      rw [Array.getD_eq_getD_getElem?,<- Array.getElem?_toList];simp only [Array.toList_append,List.append_assoc];rw [List.getElem?_append_left (by omega),List.getElem?_take_of_lt (by omega),Array.getElem?_toList,<- Array.getD_eq_getD_getElem?]) (fun j u hj=>VE _ (Lib.strCells s) zv.cells _ _ j u hol1 hj)
    rw [hsl] at r2
    exact ⟨_,_,g',hr,r1,r2⟩
theorem xcm{x:Cx}{g:Gh}{σ:St}{a:Act}{w:World}(hr:Rel x g σ a w){s d id n e:Nat}{rows:List (List D)}(hb:σ.b id=some (.arr e 1 rows))(hn:n<=rows.length)(h1:x.P.underlying s=some (.slice (x.P.elem s)))(h2:x.P.underlying (x.P.elem s)=some (.int .u8))(h3:x.P.underlying d=some .string)(h4:∀ r∈rows.take n,∃ b:UInt8,r=u8R b){u:Value}(hu:RE g w (.bs id 1 n) u) :
  (convert s d u).run x.P w=.ok (.string (rowsB (rows.take n))) w:=by
 obtain ⟨l,hl⟩:∃ l:List UInt8,rows.take n=l.map u8R:=by
  clear hn hb;generalize rows.take n=rs at h4
  induction rs with
  | nil=>exact ⟨[],rfl⟩
  | cons r rs ih=>
   obtain ⟨b,hb⟩:=h4 r (by simp)
   obtain ⟨l,hl⟩:=ih fun r hr=>h4 r (by simp [hr])
   exact ⟨b::l,by rw [hb,hl];rfl⟩
 rw [hl,rowsB_map];have hln:l.length=n:=by
  have:=congrArg List.length hl;rw [List.length_take,List.length_map] at this
  omega
 obtain ⟨rfl,u1,u2,u3⟩:=(show RC g w none (.bs id 1 n) u from hu);cases hβ:g.β id with
 | none=>
  have hκ:=u3 hβ;have hn0:n=0:=by omega
  subst hn0;obtain rfl:l=[]:=List.eq_nil_of_length_eq_zero hln;simp only [Option.map_none,hκ]
  simp [convert,run_underlying h1,run_underlying h2,run_underlying h3,Conv.bytesToString,loadCells,loadCellsFrom]
  try rfl
 | some b=>
  have hR:Rep g.S g.up w (some (.root id)) (.osl e 1 (rows.take n)) (.slice ((g.β id).map fun b=>⟨b,0,none⟩) n (g.κ id)):=Rep.osl_take (hr.ob id _ hb) n hn
  rw [hβ,Option.map_some,hl] at hR
  obtain ⟨-,vals,hS,hc⟩:=hR.ovals (by rw [List.length_map,hln])
  simp only [Option.map_some];have:=run_convert_bytes_back w s d (x.P.elem s) ⟨b,0,none⟩ (g.κ id) l h1 h2 h3 fun j hj=>by
   obtain ⟨-,-,hS⟩:=hS;obtain ⟨v,hv,hrep⟩:=hS j 0 (u8R l[j]) (.s (.int .u8 l[j].toNat)) (by rw [List.getElem?_map,List.getElem?_eq_getElem hj];rfl) rfl
   rw [Nat.mul_one,Nat.add_zero] at hv
   have:v=.int .u8 l[j].toNat:=by
    rcases hrep with q|⟨b',-,q⟩
    ·exact Rep.s_inv q
    ·exact Rep.s_inv q
   rw [hc j v hv,this]
  rw [hln] at this
  exact this
def aop3(P:Program)(σ:St)(dst:Option Tmp):Op->Option (Prop×D×St)
 | .convert s d z=>match xz (ev σ z) with
  | .bs id k n=>match σ.b id with
   | some (.arr e k' rows)=>some (oblT (ev σ z)/\k=1/\k'=1/\n<=rows.length/\P.underlying s=some (.slice (P.elem s))/\P.underlying (P.elem s)=some (.int .u8)/\P.underlying d=some .string/\(∀ r∈rows.take n,∃ b:UInt8,r=u8R b),.s (.string (rowsB (rows.take n))),σ)
   | _=>none
  | _=>none
 | .call ⟨.builtin .append,args,ts⟩=>match dst,args.toList,ts.toList with
  | some d,[s,z],[t,t']=>match tk P t with
   | .sl e k by_ _=>match xz (ev σ z) with
    | .s (.string str)=>match xz (ev σ s) with
     | .bs id k' n=>match σ.b id with
      | some (.arr e' k'' rows)=>some (P.underlying t'=some .string/\oblT (ev σ s)/\oblT (ev σ z)/\e'=e/\k=1/\k'=1/\k''=1/\n<=rows.length/\(n+str.size)*by_<=140737488355328/\n+str.size<=140737488355328,
        .bs (nmA d id) 1 (n+str.size),(σ.sc (pOut [nmA d id,id]) (pOut [nmA d id,id])).setB (nmA d id) (.arr e 1 (rows.take n++strR str)))
      | _=>none
     | _=>none
    | _=>none
   | _=>none
  | _,_,_=>none
 | _=>none
theorem aop3_ok{x:Cx}{σ σ':St}{o:Oper}{ob:Prop}{y:D}(h:aop3 x.P σ o.dst o.op=some (ob,y,σ'))(ho:ob)(hdP:∀ d,o.dst=some d->isP d=false){g:Gh}{a:Act}{w:World}(hr:Rel x g σ a w) :
  ∃ w' g',Rel x g' σ' a w'/\∃ r,(execOp a.eval o).run x.P w=.ok (.value r) w'/\RT g' w' y r:=by
 have hev:=Xj hr;have hb:∀ z,oblT (ev σ z)->RE g w (xz (ev σ z)) (a.eval z):=fun z hz=>zP (hev z) hz
 unfold aop3 at h
 split at h
 ·rename_i s d z hop
  split at h
  ·rename_i id k n hz
   split at h
   ·rename_i e k' rows hrow
    injection h with h;injection h with e1 e2;injection e2 with e2 e3
    subst e1 e2 e3;obtain ⟨o1,rfl,rfl,o2,o3,o4,o5,o6⟩:=ho;have hz':=hb z o1;rw [hz] at hz'
    have hc:=xcm hr hrow o2 o3 o4 o5 o6 hz';refine ⟨w,g,hr,.string (rowsB (rows.take n)),?_,Rep.rt (.str _)⟩;simp only [execOp,hop,Sem.run_bind];rw [hc];rfl
   ·cases h
  ·cases h
 ·rename_i args ts hop
  split at h
  ·rename_i d s z t t' hd ha ht
   have ea:args=#[s,z]:=Array.ext' ha;have et:ts=#[t,t']:=Array.ext' ht;subst ea et;split at h
   ·rename_i e k by_ zz hk
    split at h
    ·rename_i str hz
     split at h
     ·rename_i id k' n hs
      split at h
      ·rename_i e' k'' rows hrow
       injection h with h;injection h with e1 e2;injection e2 with e2 e3
       subst e1 e2 e3;obtain ⟨o0,o1,o2,rfl,rfl,rfl,rfl,o3,o6,o7⟩:=ho;have hs':=hb s o1;rw [hs] at hs'
       have hz':=hb z o2;rw [hz] at hz'
       have hz':a.eval z=.string str:=Rep.s_inv hz';obtain ⟨v',w',g',r1,r2,r3⟩:=hr.appendStr (ty:=o.type) hk o0 str hrow o3 (nmA d id) (by unfold nmA;split;exact hdP d hd;simp_all) o6 (by unfold maxLen;omega) hs'
       refine ⟨w',g',r2,v',?_,r3.re.rt⟩;simp only [execOp,hop,resolve,invoke,builtin,Sem.run_bind,Sem.run_pure,Result.andThen_ok,List.map_toArray,List.map_cons,List.map_nil,hz'];rw [r1];rfl
      ·cases h
     ·cases h
    ·cases h
   ·cases h
  ·cases h
 ·cases h
mutual
def frz:D->D
 | .osl _ k rows=>.sl k (xu rows)
 | .opa k row=>.pt ((frzL row).drop k)
 | .s v=>.s v
 | .nil=>.nil
 | .np=>.np
 | .sl k rows=>.sl k rows
 | .pt row=>.pt row
 | .fn f caps=>.fn f caps
 | .bx _ _=>.un
 | .el _ _ _ _=>.un
 | .bs _ _ _=>.un
 | .ag _=>.un
 | .un=>.un
 | .tup _=>.un
 | .mb _ _=>.un
def frzL:List D->List D
 | []=>[]
 | d::l=>frz d::frzL l
def xu:List (List D)->List (List D)
 | []=>[]
 | r::l=>frzL r::xu l
end
theorem wH(l:List D):frzL l=l.map frz:=by
 induction l with
 | nil=>rfl
 | cons d l ih=>simp only [frzL,List.map_cons,ih]
theorem xI(l:List (List D)):xu l=l.map frzL:=by
 induction l with
 | nil=>rfl
 | cons d l ih=>simp only [xu,List.map_cons,ih]
theorem Ux(l:List D):(frzL l).length=l.length:=by rw [wH,List.length_map]
theorem ZL(l:List (List D)):(xu l).length=l.length:=by rw [xI,List.length_map]
inductive Und(up:Nat->Option Pos)(R:Nat->Prop):Nat->Prop where
 | root {b id:Nat}:up b=some (.root id)->R id->Und up R b
 | cell {b b' o:Nat}:up b=some (.cell b' o)->Und up R b'->Und up R b
def PU(up:Nat->Option Pos)(R:Nat->Prop):Pos->Prop
 | .root id=>R id
 | .cell b _=>Und up R b
 | .ans _ _=>False
 | .par _ _=>False
theorem uQ{up:Nat->Option Pos}{R:Nat->Prop}{b:Nat}{p:Pos}(h:up b=some p):Und up R b ↔ PU up R p:=by
 constructor
 ·intro q
  cases q with
  | root h' r=>rw [h] at h';injection h' with h';subst h';exact r
  | cell h' r=>rw [h] at h';injection h' with h';subst h';exact r
 ·intro q
  cases p with
  | root id=>exact .root h q
  | cell b' o=>exact .cell h q
  | ans _ _=>exact q.elim
  | par _ _=>exact q.elim
theorem Rep.froz{S S':Nat->Prop}{up up':Nat->Option Pos}{w:World}{R:Nat->Prop}(hS:∀ b,S b->S' b)(hU:∀ b,Und up R b->S' b){p:Option Pos}{d:D}{v:Value}(h:Rep S up w p d v)(hp:∀ q,p=some q->PU up R q):Rep S' up' w none (frz d) v:=by
 have keep:∀ {p:Option Pos} {d:D} {v:Value},Rep S up w p d v->p=none->Rep S' up' w none d v:=by
  intro p d v h hp;have m:Mv (fun _=>False) (fun p=>p) ⟨fun _=>none,fun _=>0,up,S⟩ ⟨fun _=>none,fun _=>0,up',S'⟩ w w:=⟨fun b hb=>⟨hS b hb,rfl⟩,fun b p _ q=>q.elim,fun b p o _ q=>q.elim⟩
  have:=Rep.move (g:=⟨fun _=>none,fun _=>0,up,S⟩) m h (fun q hq=>by rw [hp] at hq;cases hq)
  rw [hp] at this;exact this
 induction h with
 | s h=>exact .s h
 | nil=>exact .nil
 | np=>exact .np
 | sl0 h=>exact .sl0 h
 | sl us h1 h2 h3 h4 h5 _=>exact .sl us h1 h2 h3 (fun i j row d r1 r2=>⟨hS _ (h4 i j row d r1 r2).1,(h4 i j row d r1 r2).2⟩) (fun i j row d r1 r2=>keep (h5 i j row d r1 r2) rfl)
 | pt us h1 h2 _=>exact .pt us (fun j d r=>⟨hS _ (h1 j d r).1,(h1 j d r).2⟩) (fun j d r=>keep (h2 j d r) rfl)
 | fn us h _=>exact .fn us (fun j d r=>keep (h j d r) rfl)
 | osl0=>exact .sl0 (by decide)
 | @osl p e k rows b c cs h1 h2 h3 h4 h5 h6 _ ih=>
  have hb:Und up R b:=(uQ h1).2 (hp p rfl);have hrow:∀ (i:Nat) (row:List D),(xu rows)[i]?=some row->∃ row0,rows[i]?=some row0/\row=frzL row0:=by
   intro i row hi;rw [xI,List.getElem?_map] at hi
   obtain ⟨r0,q1,q2⟩:=Option.map_eq_some_iff.1 hi;exact ⟨r0,q1,q2.symm⟩
  have hcell:∀ (i j:Nat) (row:List D) (d:D),(xu rows)[i]?=some row->row[j]?=some d->∃ row0 d0,rows[i]?=some row0/\row0[j]?=some d0/\d=frz d0:=by
   intro i j row d hi hj;obtain ⟨r0,q1,rfl⟩:=hrow i row hi;rw [wH,List.getElem?_map] at hj
   obtain ⟨d0,q2,q3⟩:=Option.map_eq_some_iff.1 hj;exact ⟨r0,d0,q1,q2,q3.symm⟩
  simp only [frz];have key:=Rep.sl (S:=S') (up:=up') (w:=w) (p:=none) (k:=k) (rows:=xu rows) (b:=b) (off:=0) (c:=c) (fun i j=>cs.getD (i*k+j) undef) (by rw [ZL];exact h3) h4 (fun i row hi=>by
   obtain ⟨r0,q1,rfl⟩:=hrow i row hi;rw [Ux];exact h6 i r0 q1) (fun i j row d hi hj=>⟨hU b hb,by
   obtain ⟨r0,d0,q1,q2,-⟩:=hcell i j row d hi hj;have hjk:j<k:=by rw [<- h6 i r0 q1];exact (List.getElem?_eq_some_iff.1 q2).1
   have hik:=(List.getElem?_eq_some_iff.1 q1).1;have hlt:i*k+j<cs.size:=by
    have h1:(i+1)*k<=c*k:=Nat.mul_le_mul_right _ (by omega)
    rw [Nat.add_mul,Nat.one_mul] at h1;omega
   simp only [World.cell?,h2,Nat.zero_add];rw [if_neg (by simp)]
   exact wz hlt⟩) (fun i j row d hi hj=>by
   obtain ⟨r0,d0,q1,q2,rfl⟩:=hcell i j row d hi hj;exact ih i j r0 d0 q1 q2 (fun q hq=>by injection hq with hq;subst hq;exact hb))
  rw [ZL] at key;exact key
 | @opa p k row b ty cs h1 h2 h3 _ ih=>
  have hb:Und up R b:=(uQ h1).2 (hp p rfl);have hcell:∀ (j:Nat) (d:D),(frzL row)[j]?=some d->∃ d0,row[j]?=some d0/\d=frz d0:=by
   intro j d hj;rw [wH,List.getElem?_map] at hj
   obtain ⟨d0,q2,q3⟩:=Option.map_eq_some_iff.1 hj;exact ⟨d0,q2,q3.symm⟩
  simp only [frz];rw [show (⟨b,k,none⟩:Addr)=⟨b,0+k,none⟩ by rw [Nat.zero_add]]
  refine Rep.pt_drop (Rep.pt (fun j=>cs.getD j undef) (fun j d hj=>⟨hU b hb,?_⟩) (fun j d hj=>?_)) k
  ·obtain ⟨d0,q1,-⟩:=hcell j d hj
   have hlt:j<cs.size:=by rw [h3];exact (List.getElem?_eq_some_iff.1 q1).1
   simp only [World.cell?,h2,Nat.zero_add];rw [if_neg (by simp)]
   exact wz hlt
  ·obtain ⟨d0,q1,rfl⟩:=hcell j d hj
   exact ih j d0 q1 (fun q hq=>by injection hq with hq;subst hq;exact hb)
def frC(id:Nat)(o:Ob):D->D
 | .bs i k n=>if i=id then (match o with
  | .arr _ k' rows=>if k'=k/\n<=rows.length then .sl k (xu (rows.take n)) else .un
  | _=>.un) else .bs i k n
 | .bx i off=>if i=id then (match o with
  | .box row=>.pt (frzL (row.drop off))
  | _=>.un) else .bx i off
 | .el i k j off=>if i=id then (match o with
  | .arr _ k' rows=>if k'=k/\j<rows.length then .pt (frzL ((rows.getD j []).drop off)) else .un
  | _=>.un) else .el i k j off
 | d=>d
def frE(id:Nat)(o:Ob):D->D
 | .ag xs=>.ag (xs.map (frC id o))
 | d=>frC id o d
def frT(id:Nat)(o:Ob):D->D
 | .tup xs=>.tup (xs.map (frE id o))
 | .mb c x=>.mb c (frE id o x)
 | d=>frE id o d
def frO(id:Nat)(o:Ob):Ob->Ob
 | .box row=>.box (row.map (frC id o))
 | .arr e k rows=>.arr e k rows
 | .hol e k rows i c r=>.hol e k rows i c (frC id o r)
 | .rw e k rows i rr=>.rw e k rows i (rr.map (frC id o))
def St.fr(σ:St)(id:Nat)(o:Ob):St:=⟨fun i=>frT id o (σ.t i),fun i=>if i=id then none else (σ.b i).map (frO id o)⟩
def deepO:Ob->Bool
 | .box row=>row.all wt
 | .arr _ _ _=>true
 | .hol _ _ _ _ _ _=>false
 | .rw _ _ _ _ _=>false
theorem QR(l:List D)(n:Nat):frzL (l.drop n)=(frzL l).drop n:=by rw [wH,wH,List.map_drop]
theorem Rel.freeze{x:Cx}{g:Gh}{σ:St}{a:Act}{w:World}(h:Rel x g σ a w)(id:Nat)(o:Ob)(ho:σ.b id=some o)(hd:deepO o=true):∃ g',Rel x g' (σ.fr id o) a w:=by
 classical
 let R:Nat->Prop:=fun i=>i=id
 let g':Gh:=⟨g.β,g.κ,fun b=>if Und g.up R b then none else g.up b,fun b=>g.S b\/Und g.up R b⟩
 have hlt:∀ b,Und g.up R b->b<w.heap.size/\(b<x.w0.heap.size->x.G b):=fun b q=>by
  cases q with
  | root h' _=>exact ⟨(h.own b _ h').1,(h.own b _ h').2.1⟩
  | cell h' _=>exact ⟨(h.own b _ h').1,(h.own b _ h').2.1⟩
 have ev:Ev (fun p=>¬ PU g.up R p) (fun p=>p) pAll (fun i=>decide (i≠id)) g g' w w:=by
  refine ⟨⟨fun b hb=>⟨.inl hb,rfl⟩,fun b p hp ho=>⟨?_,rfl⟩,fun b p o hp ho=>⟨fun q=>ho ((uQ hp).1 q),rfl⟩⟩,fun i _=>⟨rfl,rfl⟩,fun i hi=>⟨rfl,fun q=>?_,rfl⟩⟩
  ·show (if Und g.up R b then none else g.up b)=_
   rw [if_neg (fun q=>ho ((uQ hp).1 q))];exact hp
  ·simp only [decide_eq_true_eq] at hi
   exact hi q
 have hR:=h.ev ev (Below.refl _ _) (fun b _ _=>rfl) (fun b hb hs=>hs.elim .inl (fun q=>.inr ((hlt b q).2 hb))) (fun b hs=>hs.elim (h.new b) (fun q=>(hlt b q).1)) (fun b p hp=>by
  simp only [g'] at hp
  split at hp
  ·cases hp
  ·rename_i q
   obtain ⟨o1,o2,o3⟩:=h.own b p hp;exact ⟨o1,o2,fun r=>r.elim o3 q⟩)
 have hC:∀ {p:Option Pos} (y:D) (v:Value),RC g w p y v->RC g' w p (scC pAll y) v->RC g' w p (frC id o y) v:=by
  intro p y v h1 h2;rw [YC] at h2
  have hob:=h.ob id o ho;cases y with
  | bs i k n=>
   simp only [frC];split
   ·rename_i e
    subst e;obtain ⟨rfl,h3,h4,h5⟩:=h1;split
    ·rename_i e' k' rows
     split
     ·rename_i hc
      obtain ⟨rfl,hn⟩:=hc;have:=(Rep.osl_take hob n hn).froz (S':=g'.S) (up':=g'.up) (R:=R) (fun b=>.inl) (fun b=>.inr) (fun q hq=>by injection hq with hq;subst hq;exact rfl)
      exact (this.any p).rc
     ·rfl
    ·rfl
   ·exact h2
  | bx i off=>
   simp only [frC];split
   ·rename_i e
    subst e;obtain ⟨b,h3,rfl⟩:=h1;split
    ·rename_i row
     obtain ⟨b',cs,ty,b1,b2,b3,b4,b5⟩:=hob;rw [b1] at h3;injection h3 with h3;subst h3
     have hrep:Rep g.S g.up w (some (.root i)) (.opt row) (.pointer (some ⟨b',0,none⟩)):=.opt cs b2 b3 b4 fun j d hj=>(b5 j d hj).deep (List.all_eq_true.1 hd d (List.mem_of_getElem? hj))
     have:=hrep.froz (S':=g'.S) (up':=g'.up) (R:=R) (fun b=>.inl) (fun b=>.inr) (fun q hq=>by injection hq with hq;subst hq;exact rfl)
     simp only [frz,List.drop_zero] at this
     have:=(Rep.pt_drop this off).any p;rw [Nat.zero_add,<- QR] at this
     exact this.rc
    ·rfl
   ·exact h2
  | el i k j off=>
   simp only [frC];split
   ·rename_i e
    subst e;obtain ⟨b,h3,rfl⟩:=h1;split
    ·rename_i e' k' rows
     split
     ·rename_i hc
      obtain ⟨rfl,hn⟩:=hc;have hob:Rep g.S g.up w (some (.root i)) (.osl e' k' rows) (.slice ((g.β i).map fun b=>⟨b,0,none⟩) rows.length (g.κ i)):=hob
      rw [h3,Option.map_some] at hob
      have:=hob.froz (S':=g'.S) (up':=g'.up) (R:=R) (fun b=>.inl) (fun b=>.inr) (fun q hq=>by injection hq with hq;subst hq;exact rfl)
      obtain ⟨ad,q1,-,q2⟩:=Rep.row (p:=none) this j (by rw [ZL];exact hn)
      injection q1 with q1
      subst q1;have hg:rows[j]?=some rows[j]:=List.getElem?_eq_getElem hn;have hgd:(xu rows).getD j []=frzL (rows.getD j []):=by
       rw [ym hg,List.getD_eq_getElem?_getD,xI,List.getElem?_map,hg];rfl
      rw [hgd,add_lit,Nat.zero_add] at q2
      have:=(Rep.pt_drop q2 off).any p;rw [<- QR] at this
      exact this.rc
     ·rfl
    ·rfl
   ·exact h2
  | _=>exact h2
 have hE:∀ (y:D) (v:Value),RE g w y v->RE g' w (frE id o y) v:=by
  intro y v hy;have h2:=hy.ev ev;cases y with
  | ag xs=>
   obtain ⟨us,rfl,u1,u2⟩:=hy;refine ⟨us,rfl,by simp [u1],fun j z u hz hu=>?_⟩
   rw [List.getElem?_map] at hz
   obtain ⟨y0,q1,rfl⟩:=Option.map_eq_some_iff.1 hz;have h3:=u2 j y0 u q1 hu;exact hC y0 u h3 (h3.ev ev (p:=none) (fun z hz=>by cases hz))
  | un=>trivial
  | _=>
   simp only [RE] at hy
   exact (hC _ v hy (hy.ev ev (p:=none) (fun z hz=>by cases hz))).re
 refine ⟨g',hR.bel,hR.fr,hR.dfr,hR.sz,fun i=>?_,hR.s0,hR.old,hR.new,hR.own,fun i o' hi=>?_,fun i o' hi hq=>?_⟩
 ·have hi:=h.tm i
  show RT g' w (frT id o (σ.t i)) _;generalize σ.t i=y at hi
  cases y with
  | tup xs=>
   obtain ⟨us,hv,u1,u2⟩:=hi;refine ⟨us,hv,by simp [u1],fun j z u hz hu=>?_⟩
   rw [List.getElem?_map] at hz
   obtain ⟨y0,q1,rfl⟩:=Option.map_eq_some_iff.1 hz;exact hE y0 u (u2 j y0 u q1 hu)
  | mb c y=>exact ⟨fun hc=>hE y _ (hi.1 hc),hi.2⟩
  | _=>simp only [RT] at hi;exact (hE _ _ hi).rt
 ·simp only [St.fr] at hi
  split at hi
  ·cases hi
  ·rename_i hne
   obtain ⟨o0,q1,rfl⟩:=Option.map_eq_some_iff.1 hi;have h1:=h.ob i o0 q1;have h2:=h1.ev ev (id:=i) (by simpa using hne)
   cases o0 with
   | arr e k rows=>exact h2
   | hol e k rows i0 c0 r=>
    obtain ⟨b,cs,b1,b2,b3,b4,b5,b6,b7,b8,b9,b10,b11⟩:=h1;obtain ⟨b',cs',c1,c2,c3,c4,c5,c6,c7,c8,c9,c10,c11⟩:=h2;have:g'.β=g.β:=rfl;rw [this,b1] at c1;injection c1 with c1;subst c1
    rw [b3] at c3;injection c3 with c3;injection c3 with c3 c12;subst c3
    exact ⟨b,cs,b1,c2,b3,b4,b5,b6,b7,b8,b9,hC r _ b10 c10,c11⟩
   | rw e k rows i0 rr=>
    obtain ⟨b,cs,b1,b2,b3,b4,b5,b6,b7,b8,b9,b10,b11⟩:=h1;obtain ⟨b',cs',c1,c2,c3,c4,c5,c6,c7,c8,c9,c10,c11⟩:=h2;have:g'.β=g.β:=rfl;rw [this,b1] at c1;injection c1 with c1;subst c1
    rw [b3] at c3;injection c3 with c3;injection c3 with c3 c12;subst c3
    refine ⟨b,cs,b1,c2,b3,b4,b5,b6,b7,b8,by rw [List.length_map];exact b9,fun j d hj=>?_,c11⟩
    rw [List.getElem?_map] at hj
    obtain ⟨d0,q2,rfl⟩:=Option.map_eq_some_iff.1 hj;have:=c10 j (scC pAll d0) (by rw [List.getElem?_map,q2];rfl)
    exact hC d0 _ (b10 j d0 q2) this
   | box row=>
    obtain ⟨b,cs,ty,b1,b2,b3,b4,b5⟩:=h1;obtain ⟨b',cs',ty',c1,c2,c3,c4,c5⟩:=h2;have:g'.β=g.β:=rfl;rw [this,b1] at c1;injection c1 with c1;subst c1
    rw [b3] at c3;injection c3 with c3;injection c3 with c3 c6;subst c3
    refine ⟨b,cs,ty,b1,c2,b3,by simp [b4],fun j d hj=>?_⟩
    rw [List.getElem?_map] at hj
    obtain ⟨d0,q2,rfl⟩:=Option.map_eq_some_iff.1 hj;have:=c5 j (scC pAll d0) (by rw [List.getElem?_map,q2];rfl)
    exact hC d0 _ (b5 j d0 q2) this
 ·simp only [St.fr] at hi
  split at hi
  ·cases hi
  ·obtain ⟨o0,q1,-⟩:=Option.map_eq_some_iff.1 hi
   exact h.par i o0 q1 hq
theorem Vn{σ:St}:∀ (l:List D) (ob:Prop) (ds:List D),fdL σ l=some (ob,ds)->ob->ds.length=l.length/\∀ (j:Nat) (c d:D),l[j]?=some c->ds[j]?=some d->∃ o1,fdC σ c=some (o1,d)/\o1
 | [],ob,ds,h,ho=>by injection h with h;injection h with e1 e2;subst e2;exact ⟨rfl,fun j c d q=>by simp at q⟩
 | c::l,ob,ds,h,ho=>by
  unfold fdL at h
  split at h
  ·rename_i o1 d o2 ds' h1 h2
   injection h with h;injection h with e1 e2
   subst e1 e2;obtain ⟨i1,i2⟩:=Vn l o2 ds' h2 ho.2;refine ⟨by simp [i1],fun j c' d' q1 q2=>?_⟩
   cases j with
   | zero=>simp at q1 q2;subst q1 q2;exact ⟨o1,h1,ho.1⟩
   | succ j=>exact i2 j c' d' (by simpa using q1) (by simpa using q2)
  ·cases h
def foldB(σ:St)(id:Nat):Option (Prop×List D×St):=match σ.b id with
 | some (.box row)=>match fdL σ row with
  | some (ob,ds)=>some (ob/\nodB (idsC row)=true/\pOut (idsC row) id=true,ds,(σ.sc (pOut (idsC row)) (pOut (idsC row))).setB id (.box ds))
  | none=>none
 | _=>none
theorem fdC_deep{σ:St}{c d:D}{ob:Prop}(h:fdC σ c=some (ob,d)):wt d=true:=by
 cases c with
 | bs id k n=>simp only [fdC] at h;split at h;(injection h with h;injection h with _ h;subst h;rfl);cases h
 | bx id off=>simp only [fdC] at h;split at h;(injection h with h;injection h with _ h;subst h;rfl);cases h
 | el _ _ _ _=>cases h
 | ag _=>cases h
 | un=>cases h
 | tup _=>cases h
 | mb _ _=>cases h
 | _=>(simp only [fdC] at h;injection h with h;injection h with _ h;subst h;rfl)
theorem fdL_deep{σ:St}{l ds:List D}{ob:Prop}(h:fdL σ l=some (ob,ds)):ds.all wt=true:=by
 induction l generalizing ob ds with
 | nil=>injection h with h;injection h with _ h;subst h;rfl
 | cons c l ih=>
  unfold fdL at h
  split at h
  ·rename_i o1 d o2 ds' h1 h2
   injection h with h;injection h with _ h
   subst h;simp only [List.all_cons,Bool.and_eq_true];exact ⟨fdC_deep h1,ih h2⟩
  ·cases h
theorem Rel.foldB{x:Cx}{g:Gh}{σ σ':St}{a:Act}{w:World}(h:Rel x g σ a w){id:Nat}{ob:Prop}{ds:List D}(hf:foldB σ id=some (ob,ds,σ'))(ho:ob):∃ g',Rel x g' σ' a w:=by
 unfold Go.Proofs.YtmnokalddmlogaaGreat.foldB at hf
 split at hf
 ·rename_i row hb
  split at hf
  ·rename_i ob' ds' hfd
   injection hf with hf;injection hf with e1 e2;injection e2 with e2 e3
   subst e1 e2 e3;obtain ⟨o1,o2,o3⟩:=ho;obtain ⟨b,cs,ty,b1,b2,b3,b4,b5⟩:=h.ob id _ hb;obtain ⟨l1,l2⟩:=Vn _ _ _ hfd o1;have hne:id∉idsC row:=fun q=>xy o3 id q rfl
   let π:Pos->Pos:=fun p=>match p with
    | .root m=>if m∈idsC row then .cell b (tgtC row m) else .root m
    | p=>p
   have ev:Ev (fun _=>True) π (pOut (idsC row)) (pOut (idsC row)) g ⟨g.β,g.κ,fun c=>(g.up c).map π,g.S⟩ w w:=by
    refine ⟨⟨fun c hc=>⟨hc,rfl⟩,fun c p hc _=>⟨by show (g.up c).map π=_;rw [hc];rfl,rfl⟩,fun c p o _ _=>⟨trivial,rfl⟩⟩,fun m _=>⟨rfl,rfl⟩,fun m hm=>⟨hm,trivial,?_⟩⟩
    show (if m∈idsC row then _ else _)=_
    rw [if_neg (fun q=>xy hm m q rfl)]
   have hR:=h.ev ev (Below.refl _ _) (fun b _ _=>rfl) (fun b _ hs=>.inl hs) h.new (fun c p hc=>by
    simp only at hc
    obtain ⟨p',hp',-⟩:=Option.map_eq_some_iff.1 hc;exact h.own c p' hp')
   refine ⟨_,hR.setB (id:=id) ⟨b,cs,ty,b1,?_,b3,by rw [l1];exact b4,fun j d hj=>?_⟩ (h.par id _ hb)⟩
   ·show (g.up b).map π=_
    rw [b2];show some (if id∈idsC row then _ else _)=_
    rw [if_neg hne]
   ·have hlt:j<row.length:=by rw [<- l1];exact (List.getElem?_eq_some_iff.1 hj).1
    have hc:row[j]?=some row[j]:=List.getElem?_eq_getElem hlt;obtain ⟨o4,f1,f2⟩:=l2 j _ d hc hj;rcases Yz h f1 f2 (b5 j _ hc) with ⟨-,q⟩|⟨m,q1,q2⟩
    ·have:=Rep.move ev.toMv q (fun _ _=>trivial)
     exact this.rc
    ·have:=Rep.move ev.toMv q2 (fun _ _=>trivial)
     simp only [Option.map_some,π,if_pos (vw hc q1),Qg o2 hc q1] at this
     exact this.rc
  ·cases hf
 ·cases hf
def nmU(id j:Nat):Nat:=1000000*(j+1)+id
def unfC(id j:Nat):D->D
 | .osl _ k rows=>.bs (nmU id j) k rows.length
 | .opa k _=>.bx (nmU id j) k
 | d=>d
def unfL(id:Nat):Nat->List D->List D
 | _,[]=>[]
 | j,d::l=>unfC id j d::unfL id (j+1) l
def unfD:D->Option Ob
 | .osl e k rows=>some (.arr e k rows)
 | .opa _ row=>some (.box row)
 | _=>none
def unfO(id:Nat)(row:List D)(i:Nat):Option Ob:=if i % 1000000=id/\1000000<=i then (row[i / 1000000 - 1]?).bind unfD else none
def pUn(id:Nat)(row:List D)(i:Nat):Bool:=(unfO id row i).isNone
def St.unfB(σ:St)(id:Nat)(row:List D):St:=
 ⟨fun i=>scT (pUn id row) (σ.t i),fun i=>if i=id then some (.box (unfL id 0 row)) else match unfO id row i with
  | some o=>some o
  | none=>(σ.b i).map (scO (pUn id row))⟩
theorem unfL_at(id:Nat):∀ (l:List D) (q j:Nat),(unfL id q l)[j]?=(l[j]?).map (unfC id (q+j))
 | [],q,j=>by simp [unfL]
 | d::l,q,0=>by simp [unfL]
 | d::l,q,j+1=>by
  rw [unfL,List.getElem?_cons_succ,unfL_at id l (q+1) j,List.getElem?_cons_succ]
  congr 2;omega
theorem unfL_len(id:Nat)(l:List D)(q:Nat):(unfL id q l).length=l.length:=by
 induction l generalizing q with
 | nil=>rfl
 | cons d l ih=>simp [unfL,ih]
def blkV:Value->Option Nat
 | .slice (some a) _ _=>some a.block
 | .pointer (some a)=>some a.block
 | _=>none
def capV:Value->Nat
 | .slice (some _) _ c=>c
 | _=>0
theorem Rel.unfB{x:Cx}{g:Gh}{σ:St}{a:Act}{w:World}(h:Rel x g σ a w){id:Nat}{row:List D}(hb:σ.b id=some (.box row))(hd:row.all wt=true)(hid:id<1000000):∃ g',Rel x g' (σ.unfB id row) a w:=by
 obtain ⟨b,cs,ty,b1,b2,b3,b4,b5⟩:=h.ob id _ hb;have hcell:∀ (j:Nat) (d:D),row[j]?=some d->Rep g.S g.up w (some (.cell b j)) d (cs.getD j undef):=fun j d hj=>(b5 j d hj).deep (List.all_eq_true.1 hd d (List.mem_of_getElem? hj))
 let own:Nat->Bool:=fun j=>((row[j]?).bind unfD).isSome
 have hnm:∀ j,unfO id row (nmU id j)=(row[j]?).bind unfD:=fun j=>by
  unfold unfO nmU;rw [if_pos (by omega)]
  congr 2;omega
 have hnm':∀ i o,unfO id row i=some o->∃ j,i=nmU id j/\(row[j]?).bind unfD=some o:=fun i o hi=>by
  unfold unfO at hi
  split at hi
  ·rename_i q
   exact ⟨i / 1000000 - 1,by unfold nmU;omega,hi⟩
  ·cases hi
 have hnid:∀ j,nmU id j≠id:=fun j=>by unfold nmU;omega
 let π:Pos->Pos:=fun p=>match p with
  | .cell c j=>if c=b/\own j=true then .root (nmU id j) else .cell c j
  | p=>p
 let g':Gh:=⟨fun i=>if pUn id row i=true then g.β i else blkV (cs.getD (i / 1000000 - 1) undef),fun i=>if pUn id row i=true then g.κ i else capV (cs.getD (i / 1000000 - 1) undef),fun c=>(g.up c).map π,g.S⟩
 have hnj:∀ j,nmU id j / 1000000 - 1=j:=fun j=>by unfold nmU;omega
 have hpn:∀ j o,(row[j]?).bind unfD=some o->pUn id row (nmU id j)=false:=fun j o q=>by unfold pUn;rw [hnm,q];rfl
 have hpid:pUn id row id=true:=by
  unfold pUn;cases hq:unfO id row id with
  | none=>rfl
  | some o=>obtain ⟨j,e,-⟩:=hnm' _ _ hq;exact absurd e.symm (hnid j)
 have ev:Ev (fun p=>p≠.root id/\∀ i,p=.root i->pUn id row i=true) π (pUn id row) (fun i=>pUn id row i&&i != id) g g' w w:=by
  refine ⟨⟨fun c hc=>⟨hc,rfl⟩,fun c p hc hp=>⟨by show (g.up c).map π=_;rw [hc];rfl,rfl⟩,fun c p o hc hp=>⟨⟨by simp,by simp⟩,?_⟩⟩,fun i hi=>⟨by show (if _ then _ else _)=_;rw [if_pos hi],by show (if _ then _ else _)=_;rw [if_pos hi]⟩,fun i hi=>?_⟩
  ·show (if c=b/\own o=true then _ else _)=_
   rw [if_neg]
   rintro ⟨rfl,-⟩
   rw [b2] at hc;injection hc with hc
   exact hp.1 hc.symm
  ·simp only [Bool.and_eq_true,bne_iff_ne,ne_eq] at hi
   exact ⟨hi.1,⟨fun e=>by injection e with e;exact hi.2 e,fun i' e=>by injection e with e;subst e;exact hi.1⟩,rfl⟩
 have hR:=h.ev ev (Below.refl _ _) (fun b _ _=>rfl) (fun b _ hs=>.inl hs) h.new (fun c p hc=>by
  simp only [g'] at hc
  obtain ⟨p',hp',-⟩:=Option.map_eq_some_iff.1 hc;exact h.own c p' hp')
 have hmv:∀ (j:Nat) (d:D),row[j]?=some d->Rep g'.S g'.up w (some (if own j=true then .root (nmU id j) else .cell b j)) d (cs.getD j undef):=fun j d hj=>by
  have:=Rep.move ev.toMv (hcell j d hj) (fun q hq=>by injection hq with hq;subst hq;exact ⟨by simp,by simp⟩)
  rw [Option.map_some] at this
  by_cases ho:own j=true
  ·rw [if_pos ho]
   have e:π (.cell b j)=.root (nmU id j):=by show (if b=b/\own j=true then _ else _)=_;rw [if_pos ⟨rfl,ho⟩]
   rw [e] at this;exact this
  ·rw [if_neg ho]
   have e:π (.cell b j)=.cell b j:=by show (if b=b/\own j=true then _ else _)=_;rw [if_neg (fun q=>ho q.2)]
   rw [e] at this;exact this
 refine ⟨g',hR.bel,hR.fr,hR.dfr,hR.sz,hR.tm,hR.s0,hR.old,hR.new,hR.own,fun i o hi=>?_,fun i o hi hq=>?_⟩
 rotate_left
 ·have hp:pUn id row i=true:=by
   unfold pUn;cases hu:unfO id row i with
   | none=>rfl
   | some o'=>
    obtain ⟨j,rfl,-⟩:=hnm' _ _ hu
    exfalso
    unfold isP nmU at hq
    rw [Bool.and_eq_true,decide_eq_true_eq,decide_eq_true_eq] at hq
    have:=hq.2;omega
  have hb':∃ o',σ.b i=some o':=by
   simp only [St.unfB] at hi
   split at hi
   ·rename_i e;subst e;exact ⟨_,hb⟩
   ·split at hi
    ·rename_i hu;unfold pUn at hp;rw [hu] at hp;cases hp
    ·obtain ⟨o0,q1,-⟩:=Option.map_eq_some_iff.1 hi;exact ⟨o0,q1⟩
  obtain ⟨o',hb'⟩:=hb';have:=h.par i o' hb' hq
  constructor
  ·show (if _ then _ else _)=_
   rw [if_pos hp];exact this.1
  ·show (if _ then _ else _)=_
   rw [if_pos hp];exact this.2
 simp only [St.unfB] at hi
 split at hi
 ·rename_i e
  subst e;injection hi with hi
  subst hi;refine ⟨b,cs,ty,?_,?_,b3,by rw [unfL_len];exact b4,fun j d hj=>?_⟩
  ·show (if _ then _ else _)=_
   rw [if_pos hpid];exact b1
  ·show (g.up b).map π=_
   rw [b2];rfl
  ·rw [unfL_at,Nat.zero_add] at hj
   obtain ⟨d0,q1,rfl⟩:=Option.map_eq_some_iff.1 hj;have hm:=hmv j d0 q1
   by_cases ho:own j=true
   ·rw [if_pos ho] at hm
    have hβ:g'.β (nmU i j)=blkV (cs.getD j undef)/\g'.κ (nmU i j)=capV (cs.getD j undef):=by
     obtain ⟨o',ho'⟩:=Option.isSome_iff_exists.1 ho;have hp:=hpn j o' ho'
     constructor
     ·show (if _ then _ else _)=_
      rw [if_neg (by rw [hp];simp),hnj]
     ·show (if _ then _ else _)=_
      rw [if_neg (by rw [hp];simp),hnj]
    generalize cs.getD j undef=v at hm hβ
    cases d0 with
    | osl e k rows=>
     show v=.slice ((g'.β (nmU i j)).map _) _ _/\_;rw [hβ.1,hβ.2];cases hm with
     | osl0=>exact ⟨rfl,Nat.zero_le _,by simp [capV,maxLen],fun _=>rfl⟩
     | osl cs' r1 r2 r3 r4 r5 r6 r7=>exact ⟨rfl,r3,r4,fun q=>by cases q⟩
    | opa k r=>
     cases hm with
     | opa cs' r1 r2 r3 r4=>exact ⟨_,hβ.1,rfl⟩
    | _=>(simp only [own,q1,Option.bind_some,unfD] at ho;cases ho)
   ·rw [if_neg ho] at hm
    have hc:unfC i j d0=d0:=by
     cases d0 with
     | osl e k rows=>exact absurd (by simp only [own,q1,Option.bind_some,unfD];rfl) ho
     | opa k r=>exact absurd (by simp only [own,q1,Option.bind_some,unfD];rfl) ho
     | _=>rfl
    rw [hc];exact hm.rc
 ·rename_i hne
  split at hi
  ·rename_i o' ho'
   injection hi with hi
   subst hi;obtain ⟨j,rfl,hj⟩:=hnm' _ _ ho';obtain ⟨d0,q1,q2⟩:=Option.bind_eq_some_iff.1 hj;have hm:=hmv j d0 q1;rw [if_pos (by simp only [own,hj];rfl)] at hm
   have hp:=hpn j _ hj;have hβ:g'.β (nmU id j)=blkV (cs.getD j undef)/\g'.κ (nmU id j)=capV (cs.getD j undef):=by
    constructor
    ·show (if _ then _ else _)=_
     rw [if_neg (by rw [hp];simp),hnj]
    ·show (if _ then _ else _)=_
     rw [if_neg (by rw [hp];simp),hnj]
   generalize cs.getD j undef=v at hm hβ
   cases d0 with
   | osl e k rows=>
    injection q2 with q2
    subst q2;show Rep _ _ _ _ _ _;rw [hβ.1,hβ.2];cases hm with
    | osl0=>exact .osl0
    | osl cs' r1 r2 r3 r4 r5 r6 r7=>exact .osl cs' r1 r2 r3 r4 r5 r6 r7
   | opa k r=>
    injection q2 with q2
    subst q2;cases hm with
    | opa cs' r1 r2 r3 r4=>exact ⟨_,cs',_,hβ.1,r1,r2,r3,fun j' d' hj'=>(r4 j' d' hj').rc⟩
   | _=>cases q2
  ·rename_i ho'
   obtain ⟨o0,q1,rfl⟩:=Option.map_eq_some_iff.1 hi;exact hR.ob i _ (by
    simp only [St.sc];rw [if_pos (by simp [pUn,ho',hne]),q1];rfl)
def refC(nm:Nat):D->D
 | .osl _ k rows=>.bs nm k rows.length
 | .opa k _=>.bx nm k
 | c=>c
theorem Rep.ref{g:Gh}{w:World}{nm:Nat}{c:D}{u:Value}(h:Rep g.S g.up w (some (.root nm)) c u)(hβ:g.β nm=blkV u)(hκ:g.κ nm=capV u):RC g w none (refC nm c) u:=by
 cases c with
 | osl e k rows=>
  show u=.slice ((g.β nm).map _) _ _/\_;rw [hβ,hκ];cases h with
  | osl0=>exact ⟨rfl,Nat.zero_le _,by simp [capV,maxLen],fun _=>rfl⟩
  | osl cs' r1 r2 r3 r4 r5 r6 r7=>exact ⟨rfl,r3,r4,fun q=>by cases q⟩
 | opa k r=>
  cases h with
  | opa cs' r1 r2 r3 r4=>exact ⟨_,hβ,rfl⟩
 | _=>exact (h.free (fun _ _ _ q=>by cases q) (fun _ _ q=>by cases q) none).rc
theorem Rep.ro{g:Gh}{w:World}{i:Nat}{c:D}{o:Ob}{u:Value}(h:Rep g.S g.up w (some (.root i)) c u)(hc:unfD c=some o)(hβ:g.β i=blkV u)(hκ:∀ e k rows,c=.osl e k rows->g.κ i=capV u):RO g w i o:=by
 cases c with
 | osl e k rows=>
  injection hc with hc
  subst hc;show Rep _ _ _ _ _ _;rw [hβ,hκ e k rows rfl];cases h with
  | osl0=>exact .osl0
  | osl cs r1 r2 r3 r4 r5 r6 r7=>exact .osl cs r1 r2 r3 r4 r5 r6 r7
 | opa k r=>
  injection hc with hc
  subst hc;cases h with
  | opa cs' r1 r2 r3 r4=>exact ⟨_,cs',_,hβ,r1,r2,r3,fun j' d' hj'=>(r4 j' d' hj').rc⟩
 | _=>cases hc
theorem ij_ne{k i j i0 c0:Nat}(hj:j<k)(hc:c0<k)(h:¬ (i=i0/\j=c0)):i*k+j≠i0*k+c0:=by
 intro e;rcases Nat.lt_trichotomy i i0 with q|q|q
 ·have:(i+1)*k<=i0*k:=Nat.mul_le_mul_right _ q
  rw [Nat.add_mul,Nat.one_mul] at this;omega
 ·subst q;exact h ⟨rfl,by omega⟩
 ·have:(i0+1)*k<=i*k:=Nat.mul_le_mul_right _ q
  rw [Nat.add_mul,Nat.one_mul] at this;omega
def St.opE(σ:St)(id e k:Nat)(rows:List (List D))(i c nm:Nat)(d:D)(o:Ob):St:=((σ.sc (pOut [nm]) (pOut [nm,id])).setB id (.hol e k rows i c (refC nm d))).setB nm o
theorem Rel.openE{x:Cx}{g:Gh}{σ:St}{a:Act}{w:World}(h:Rel x g σ a w){id e k:Nat}{rows:List (List D)}(hb:σ.b id=some (.arr e k rows))(i c nm:Nat){row:List D}{d:D}{o:Ob}(hi:rows[i]?=some row)(hd:row[c]?=some d)(hu:unfD d=some o)(hne:nm≠id)(hnP:isP nm=false):∃ g',Rel x g' (σ.opE id e k rows i c nm d o) a w:=by
 have hR0:Rep g.S g.up w (some (.root id)) (.osl e k rows) (.slice ((g.β id).map fun b=>⟨b,0,none⟩) rows.length (g.κ id)):=h.ob id _ hb
 generalize hvv:Value.slice ((g.β id).map fun b=>(⟨b,0,none⟩:Addr)) rows.length (g.κ id)=vv at hR0
 cases hR0 with
 | osl0=>simp at hi
 | @osl _ _ _ _ b co cs q1 q2 q3 q4 q5 q6 q7=>
  injection hvv with hv1 _ hv2
  have hβ:g.β id=some b:=by
   cases hq:g.β id with
   | none=>rw [hq] at hv1;cases hv1
   | some b'=>rw [hq] at hv1;injection hv1 with hv1;injection hv1 with hv1;rw [hv1]
  subst hv2;have hck:c<k:=by rw [<- q6 i row hi];exact (List.getElem?_eq_some_iff.1 hd).1
  let π:Pos->Pos:=fun p=>match p with
   | .cell b' o=>if b'=b/\o=i*k+c then .root nm else .cell b' o
   | p=>p
  let g':Gh:=⟨fun j=>if j=nm then blkV (cs.getD (i*k+c) undef) else g.β j,fun j=>if j=nm then capV (cs.getD (i*k+c) undef) else g.κ j,fun b'=>(g.up b').map π,g.S⟩
  have ev:Ev (fun p=>p≠.root id/\p≠.root nm) π (pOut [nm]) (pOut [nm,id]) g g' w w:=by
   refine ⟨⟨fun b' hb'=>⟨hb',rfl⟩,fun b' p hp _=>⟨by show (g.up b').map π=_;rw [hp];rfl,rfl⟩,fun b' p o hp ho=>⟨by simp,?_⟩⟩,fun j hj=>?_,fun j hj=>?_⟩
   ·show (if b'=b/\o=i*k+c then _ else _)=_
    rw [if_neg]
    rintro ⟨rfl,-⟩
    rw [q1] at hp;injection hp with hp
    exact ho.1 hp.symm
   ·have:=xy hj nm (by simp)
    exact ⟨by show (if _ then _ else _)=_;rw [if_neg this],by show (if _ then _ else _)=_;rw [if_neg this]⟩
   ·have h1:=xy hj nm (by simp)
    have h2:=xy hj id (by simp)
    exact ⟨by simp [pOut,h1],⟨fun q=>by injection q with q;exact h2 q,fun q=>by injection q with q;exact h1 q⟩,rfl⟩
  have hR:=h.ev ev (Below.refl _ _) (fun b _ _=>rfl) (fun b _ hs=>.inl hs) h.new (fun b' p hp=>by
   obtain ⟨p',hp',-⟩:=Option.map_eq_some_iff.1 (show (g.up b').map π=some p from hp);exact h.own b' p' hp')
  have hnm:g'.β nm=blkV (cs.getD (i*k+c) undef)/\g'.κ nm=capV (cs.getD (i*k+c) undef):=⟨if_pos rfl,if_pos rfl⟩;have hid:g'.β id=some b/\g'.κ id=g.κ id:=⟨(if_neg (fun q=>hne q.symm)).trans hβ,if_neg (fun q=>hne q.symm)⟩
  have hmv:=Rep.move ev.toMv (q7 i c row d hi hd) (fun z hz=>by injection hz with hz;subst hz;simp)
  have e1:π (.cell b (i*k+c))=.root nm:=if_pos ⟨rfl,rfl⟩;rw [Option.map_some,e1] at hmv
  refine ⟨g',(hR.setB (id:=id) (o:=.hol e k rows i c (refC nm d)) ⟨b,cs,hid.1,?_,q2,by rw [hid.2];exact q3,by rw [hid.2];exact q4,by rw [hid.2];exact q5,q6,(List.getElem?_eq_some_iff.1 hi).1,hck,(hmv.ref hnm.1 hnm.2).any _,fun i' j row' d' r1 r2 r3=>?_⟩ (fun hp=>by rw [hid.1,hid.2];have:=h.par id _ hb hp;rw [hβ] at this;exact this)).setB (id:=nm) (hmv.ro hu hnm.1 (fun _ _ _ _=>hnm.2)) (fun hp=>by rw [hnP] at hp;cases hp)⟩
  ·show (g.up b).map π=_
   rw [q1];rfl
  ·have hjk:j<k:=by rw [<- q6 i' row' r1];exact (List.getElem?_eq_some_iff.1 r2).1
   have:=Rep.move ev.toMv (q7 i' j row' d' r1 r2) (fun z hz=>by injection hz with hz;subst hz;simp)
   have e2:π (.cell b (i'*k+j))=.cell b (i'*k+j):=if_neg (fun q=>ij_ne hjk hck r3 q.2)
   rwa [Option.map_some,e2] at this
theorem Rel.closeE{x:Cx}{g:Gh}{σ:St}{a:Act}{w:World}(h:Rel x g σ a w){id e k:Nat}{rows:List (List D)}{i c:Nat}{r d:D}{ob:Prop}{nm:Nat}(hb:σ.b id=some (.hol e k rows i c r))(hf:fdC σ r=some (ob,d))(ho:ob)(hr:idC r=some nm)(hne:nm≠id) :
  ∃ g',Rel x g' ((σ.sc (pOut [nm]) (pOut [nm])).setB id (.arr e k (rows.set i ((rows.getD i []).set c d)))) a w:=by
 obtain ⟨b,cs,h1,h2,h3,h4,h5,h6,h7,h8,h9,h10,h11⟩:=h.ob id _ hb
 let π:Pos->Pos:=fun p=>match p with
  | .root m=>if m=nm then .cell b (i*k+c) else .root m
  | p=>p
 have ev:Ev (fun _=>True) π (pOut [nm]) (pOut [nm]) g ⟨g.β,g.κ,fun c=>(g.up c).map π,g.S⟩ w w:=by
  refine ⟨⟨fun c hc=>⟨hc,rfl⟩,fun c p hc _=>⟨by show (g.up c).map π=_;rw [hc];rfl,rfl⟩,fun c p o _ _=>⟨trivial,rfl⟩⟩,fun m _=>⟨rfl,rfl⟩,fun m hm=>⟨hm,trivial,?_⟩⟩
  exact if_neg (xy hm nm (by simp))
 have hR:=h.ev ev (Below.refl _ _) (fun b _ _=>rfl) (fun b _ hs=>.inl hs) h.new (fun c p hc=>by
  obtain ⟨p',hp',-⟩:=Option.map_eq_some_iff.1 (show (g.up c).map π=some p from hc);exact h.own c p' hp')
 have hg:rows[i]?=some rows[i]:=List.getElem?_eq_getElem h8;have hrl:=h7 i _ hg;refine ⟨_,hR.setB (id:=id) ?_ (h.par id _ hb)⟩;show Rep _ _ _ _ _ _;rw [h1,Option.map_some];have key:=Rep.osl (S:=g.S) (up:=fun c=>(g.up c).map π) (w:=w) (p:=.root id) (e:=e) (k:=k) (rows:=rows.set i ((rows.getD i []).set c d)) (b:=b) (c:=g.κ id) cs (by
  show (g.up b).map π=_;rw [h2];exact congrArg some (if_neg (fun q=>hne q.symm))) h3 (by simpa using h4) h5 h6 (fun i' row hi'=>?_) (fun i' j row y hi' hj=>?_)
 ·exact key
 ·rw [List.getElem?_set] at hi'
  split at hi'
  ·rename_i e';subst e'
   injection hi' with hi'
   subst hi';rw [List.length_set,ym hg,hrl]
  ·exact h7 i' row hi'
 ·have keep:∀ row0,rows[i']?=some row0->row0[j]?=some y->¬ (i'=i/\j=c)->Rep g.S (fun c=>(g.up c).map π) w (some (.cell b (i'*k+j))) y (cs.getD (i'*k+j) undef):=fun row0 r1 r2 r3=>Rep.move ev.toMv (h11 i' j row0 y r1 r2 r3) (fun _ _=>trivial)
  rw [List.getElem?_set] at hi'
  split at hi'
  ·rename_i e';subst e'
   injection hi' with hi'
   subst hi';rw [ym hg,List.getElem?_set] at hj
   split at hj
   ·rename_i e';subst e'
    have hcl:c<rows[i].length:=by rw [hrl];exact h9
    first
     | rw [if_pos hcl] at hj
     | skip
    injection hj with hj
    subst hj;rcases Yz h hf ho h10 with ⟨q1,-⟩|⟨m,q1,q2⟩
    ·rw [hr] at q1;cases q1
    ·rw [hr] at q1;injection q1 with q1;subst q1
     have:=Rep.move ev.toMv q2 (fun _ _=>trivial)
     have e2:π (.root nm)=.cell b (i*k+c):=if_pos rfl
     rwa [Option.map_some,e2] at this
   ·rename_i hc
    exact keep _ hg hj (fun q=>hc q.2.symm)
  ·rename_i hne'
   exact keep row hi' hj (fun q=>hne' q.1.symm)
def RA(g:Gh)(w:World)(j:Nat):D->Value->Prop
 | .ag xs,v=>∃ us:List Value,v=.agg us.toArray/\us.length=xs.length/\∀ (l:Nat) (x:D) (u:Value),xs[l]?=some x->us[l]?=some u->Rep g.S g.up w (some (.par j l)) x u
 | d,v=>Rep g.S g.up w (some (.par j 0)) d v
def RU(g:Gh)(w:World)(j:Nat):D->Value->Prop
 | .un,_=>True
 | .ag xs,v=>∃ us:List Value,v=.agg us.toArray/\us.length=xs.length/\∀ (l:Nat) (x:D) (u:Value),xs[l]?=some x->us[l]?=some u->x=.un\/Rep g.S g.up w (some (.par j l)) x u
 | d,v=>Rep g.S g.up w (some (.par j 0)) d v
def RN(g:Gh)(w:World)(m:Nat):D->Value->Prop
 | .un,_=>True
 | .ag xs,v=>∃ us:List Value,v=.agg us.toArray/\us.length=xs.length/\∀ (l:Nat) (x:D) (u:Value),xs[l]?=some x->us[l]?=some u->Rep g.S g.up w (some (.ans m l)) x u
 | d,v=>Rep g.S g.up w (some (.ans m 0)) d v
def RNs(g:Gh)(w:World):D->Value->Prop
 | .tup xs,v=>∃ us:List Value,v=.tuple us.toArray/\us.length=xs.length/\∀ (m:Nat) (x:D) (u:Value),xs[m]?=some x->us[m]?=some u->RN g w m x u
 | d,v=>RN g w 0 d v
structure FCon(P:Program)(f:FuncId)(args:List D)(Rs:D->List D->Prop):Prop where
 ent:∀ vs w,(callFunc f vs).run P w=.ok (.enter f vs) w
 run:∀ (w:World) (g:Gh) (vs:List Value),(∀ b,g.S b->b<w.heap.size)->(∀ b p,g.up b=some p->b<w.heap.size/\¬ g.S b)->vs.length=args.length->(∀ (j:Nat) (d:D) (u:Value),args[j]?=some d->vs[j]?=some u->RA g w j d u) ->
  Calls P f vs.toArray w (fun e w'=>∃ v g' r outs,e=.returned v/\Below 0 w w'/\(∀ b,b<w.heap.size->g.up b=none->w'.heap[b]?=w.heap[b]?)/\(∀ b,g.S b->Gh.S g' b)/\(∀ b,b<w.heap.size->g'.S b->g.S b\/g.up b≠none)/\(∀ b,g'.S b->b<w'.heap.size) /\
   (∀ b p,g'.up b=some p->b<w'.heap.size/\(b<w.heap.size->g.up b≠none)/\¬ g'.S b)/\Rs r outs/\RNs g' w' r v/\∀ (j:Nat) (d:D) (u:Value),outs[j]?=some d->vs[j]?=some u->RU g' w' j d u)
theorem FCon.mono{P:Program}{f:FuncId}{args:List D}{Rs Rs':D->List D->Prop}(h:FCon P f args Rs)(hr:∀ r o,Rs r o->Rs' r o):FCon P f args Rs':=by
 refine ⟨h.ent,fun w g vs h1 h2 h3 h4=>(h.run w g vs h1 h2 h3 h4).mono ?_⟩
 rintro e w' ⟨v,g',r,o,a1,a2,a3,a4,a5,a6,a7,a8,a9⟩
 exact ⟨v,g',r,o,a1,a2,a3,a4,a5,a6,a7,hr r o a8,a9⟩
inductive Pure:D->Prop where
 | s (v:Value):Pure (.s v)
 | nil:Pure .nil
 | np:Pure .np
 | un:Pure .un
 | sl0 {k:Nat}:Pure (.sl k [])
 | osl {e k:Nat} {rows:List (List D)}:(∀ (i j:Nat) (row:List D) (d:D),rows[i]?=some row->row[j]?=some d->Pure d)->Pure (.osl e k rows)
 | opa {k:Nat} {row:List D}:(∀ (j:Nat) (d:D),row[j]?=some d->Pure d)->Pure (.opa k row)
 | ag {xs:List D}:(∀ (j:Nat) (d:D),xs[j]?=some d->Pure d)->Pure (.ag xs)
 | tup {xs:List D}:(∀ (j:Nat) (d:D),xs[j]?=some d->Pure d)->Pure (.tup xs)
theorem Rep.pmove{S S':Nat->Prop}{up up':Nat->Option Pos}{w w':World}{π:Pos->Pos}(ow:∀ b p,up b=some p->up' b=some (π p)/\w'.heap[b]?=w.heap[b]?)(st:∀ b o,π (.cell b o)=.cell b o){p:Option Pos}{d:D}{v:Value}(h:Rep S up w p d v)(hs:(∀ b,S b->S' b/\w'.heap[b]?=w.heap[b]?)\/Pure d):Rep S' up' w' (p.map π) d v:=by
 rcases hs with hs|hp
 ·have m:Mv (fun _=>True) π ⟨fun _=>none,fun _=>0,up,S⟩ ⟨fun _=>none,fun _=>0,up',S'⟩ w w':=⟨hs,fun b p hb _=>ow b p hb,fun b p o _ _=>⟨trivial,st b o⟩⟩
  exact Rep.move (g:=⟨fun _=>none,fun _=>0,up,S⟩) m h (fun _ _=>trivial)
 ·induction h with
  | s h=>exact .s h
  | nil=>exact .nil
  | np=>exact .np
  | sl0 h=>exact .sl0 h
  | @sl p k rows b off c us h1 h2 h3 h4 h5 ih=>
   cases hp with
   | sl0=>exact .sl us h1 h2 h3 (fun i j row d r1 r2=>by simp at r1) (fun i j row d r1 r2=>by simp at r1)
  | pt us h1 _ ih=>cases hp
  | fn us _ ih=>cases hp
  | osl0=>exact .osl0
  | @osl p e k rows b c cs h1 h2 h3 h4 h5 h6 _ ih=>
   cases hp with
   | osl hp=>
    obtain ⟨m1,m2⟩:=ow b p h1;refine .osl cs m1 (m2.trans h2) h3 h4 h5 h6 fun i j row d r1 r2=>?_
    have:=ih i j row d r1 r2 (hp i j row d r1 r2)
    rwa [Option.map_some,st] at this
  | @opa p k row b ty cs h1 h2 h3 _ ih=>
   cases hp with
   | opa hp=>
    obtain ⟨m1,m2⟩:=ow b p h1;refine .opa cs m1 (m2.trans h2) h3 fun j d r=>?_
    have:=ih j d r (hp j d r)
    rwa [Option.map_some,st] at this
theorem Und.disj{up:Nat->Option Pos}{R R':Nat->Prop}{b:Nat}(h:Und up R b)(h':Und up R' b):∃ i,R i/\R' i:=by
 induction h with
 | @root b i h1 h2=>
  cases h' with
  | @root _ i' h3 h4=>rw [h1] at h3;injection h3 with h3;injection h3 with h3;subst h3;exact ⟨i,h2,h4⟩
  | cell h3 _=>rw [h1] at h3;injection h3 with h3;cases h3
 | @cell b b' o h1 h2 ih=>
  cases h' with
  | root h3 _=>rw [h1] at h3;injection h3 with h3;cases h3
  | @cell _ b'' o' h3 h4=>rw [h1] at h3;injection h3 with h3;injection h3 with h3 h5;subst h3;exact ih h4
abbrev Gv:=Nat×Nat×Nat
def gvF:List Gv->Nat->Option (Nat×Nat)
 | [],_=>none
 | (i,j,l)::r,n=>if n=i then some (j,l) else gvF r n
def gvB:List Gv->Nat->Nat->Option Nat
 | [],_,_=>none
 | (i,j,l)::r,j',l'=>if j'=j/\l'=l then some i else gvB r j' l'
def gvN(gs:List Gv):List Nat:=gs.map fun p=>p.1
def gvK(gs:List Gv):List Nat:=gs.map fun p=>1000*p.2.1+p.2.2
theorem gvF_mem{gs:List Gv}{n j l:Nat}(h:gvF gs n=some (j,l)):(n,j,l)∈gs:=by
 induction gs with
 | nil=>cases h
 | cons p r ih=>
  obtain ⟨i,j',l'⟩:=p;simp only [gvF] at h
  split at h
  ·rename_i e;injection h with h;injection h with h1 h2;subst e h1 h2;simp
  ·exact List.mem_cons_of_mem _ (ih h)
theorem gvF_of{gs:List Gv}(hn:nodB (gvN gs)=true){n j l:Nat}(h:(n,j,l)∈gs):gvF gs n=some (j,l):=by
 induction gs with
 | nil=>cases h
 | cons p r ih=>
  obtain ⟨i,j',l'⟩:=p;simp only [gvN,List.map_cons,nodB,Bool.and_eq_true] at hn
  simp only [gvF];rcases List.mem_cons.1 h with e|h
  ·injection e with e1 e2;injection e2 with e2 e3;subst e1 e2 e3;rw [if_pos rfl]
  ·rw [if_neg (fun e=>xy hn.1 n (List.mem_map.2 ⟨_,h,rfl⟩) e.symm)]
   exact ih hn.2 h
theorem gvB_of{gs:List Gv}(hn:nodB (gvK gs)=true){n j l:Nat}(h:(n,j,l)∈gs):gvB gs j l=some n:=by
 induction gs with
 | nil=>cases h
 | cons p r ih=>
  obtain ⟨i,j',l'⟩:=p;simp only [gvK,List.map_cons,nodB,Bool.and_eq_true] at hn
  simp only [gvB];rcases List.mem_cons.1 h with e|h2
  ·injection e with e1 e2;injection e2 with e2 e3;subst e1 e2 e3;rw [if_pos ⟨rfl,rfl⟩]
  ·rw [if_neg (fun e=>by
    obtain ⟨rfl,rfl⟩:=e;exact xy hn.1 (1000*j+l) (List.mem_map.2 ⟨(n,j,l),h2,rfl⟩) rfl)]
   exact ih hn.2 h2
def pinG(gs:List Gv):Pos->Pos
 | .root i=>match gvF gs i with
  | some (j,l)=>.par j l
  | none=>.root i
 | p=>p
def ansN(d m l:Nat):Nat:=1000*(20*m+l+1)+d
def poutG(gs:List Gv)(d:Nat):Pos->Pos
 | .par j l=>match gvB gs j l with
  | some i=>.root i
  | none=>.par j l
 | .ans m l=>.root (ansN d m l)
 | p=>p
noncomputable def calG(g:Gh)(gs:List Gv)(bs:List Nat):Gh:=by
 classical
 exact ⟨fun _=>none,fun _=>0,fun b=>if Und g.up (fun i=>i∈gvN gs) b then (g.up b).map (pinG gs) else none,fun b=>g.S b\/Und g.up (fun i=>i∈bs) b⟩
section
variable {x:Cx} {g:Gh} {σ:St} {a:Act} {w:World}
theorem calG_in{gs:List Gv}{bs:List Nat}{b:Nat}(h:Und g.up (fun i=>i∈gvN gs) b):(calG g gs bs).up b=(g.up b).map (pinG gs):=by
 classical
 show (if _ then _ else _)=_
 rw [if_pos h]
theorem ut{gs:List Gv}{bs:List Nat}{b:Nat}:(calG g gs bs).up b≠none ↔ Und g.up (fun i=>i∈gvN gs) b:=by
 classical
 constructor
 ·intro h
  have h:(if Und g.up (fun i=>i∈gvN gs) b then (g.up b).map (pinG gs) else none)≠none:=h
  by_cases q:Und g.up (fun i=>i∈gvN gs) b
  ·exact q
  ·rw [if_neg q] at h;exact absurd rfl h
 ·intro h
  rw [calG_in h];cases h with
  | root h' _=>rw [h'];simp
  | cell h' _=>rw [h'];simp
theorem Rel.und(h:Rel x g σ a w){R:Nat->Prop}{b:Nat}(q:Und g.up R b):b<w.heap.size/\(b<x.w0.heap.size->x.G b)/\¬ g.S b:=by
 cases q with
 | root h' _=>exact h.own b _ h'
 | cell h' _=>exact h.own b _ h'
theorem Rel.cal1(h:Rel x g σ a w)(gs:List Gv)(bs:List Nat):∀ b,(calG g gs bs).S b->b<w.heap.size:=fun b q=>q.elim (h.new b) (fun q=>(h.und q).1)
theorem Rel.cal2(h:Rel x g σ a w){gs:List Gv}{bs:List Nat}(hd:∀ b∈bs,b∉gvN gs):∀ b p,(calG g gs bs).up b=some p->b<w.heap.size/\¬ (calG g gs bs).S b:=fun b p q=>by
 have hu:=(ut (g:=g) (gs:=gs) (bs:=bs) (b:=b)).1 (by rw [q];simp)
 refine ⟨(h.und hu).1,fun r=>r.elim (h.und hu).2.2 fun r=>?_⟩
 obtain ⟨i,i1,i2⟩:=hu.disj r;exact hd i i2 i1
theorem Rel.calCell(h:Rel x g σ a w){gs:List Gv}{bs:List Nat}{c d:D}{ob:Prop}{u:Value}(hf:fdC σ c=some (ob,d))(ho:ob)(hu:RC g w none c u) :
  (idC c=none->∀ p,Rep (calG g gs bs).S (calG g gs bs).up w p d u)/\(∀ i j l,idC c=some i->(i,j,l)∈gs->nodB (gvN gs)=true->Rep (calG g gs bs).S (calG g gs bs).up w (some (.par j l)) d u)/\(∀ i,idC c=some i->i∈bs->∀ p,Rep (calG g gs bs).S (calG g gs bs).up w p (frz d) u):=by
 rcases Yz h hf ho hu with ⟨q1,q2⟩|⟨i,q1,q2⟩
 ·refine ⟨fun _ p=>?_,fun i j l q=>(by rw [q1] at q;cases q),fun i q=>(by rw [q1] at q;cases q)⟩
  have m:Mv (fun _=>False) (fun p=>p) g (calG g gs bs) w w:=⟨fun b hb=>⟨.inl hb,rfl⟩,fun b p _ q=>q.elim,fun b p o _ q=>q.elim⟩
  exact (Rep.move m q2 (fun q hq=>by cases hq)).any p
 ·refine ⟨fun q=>(by rw [q1] at q;cases q),fun i' j l q hm hn=>?_,fun i' q hm p=>?_⟩
  ·rw [q1] at q;injection q with q;subst q
   have m:Mv (PU g.up (fun i=>i∈gvN gs)) (pinG gs) g (calG g gs bs) w w:=by
    refine ⟨fun b hb=>⟨.inl hb,rfl⟩,fun b p hb hp=>⟨?_,rfl⟩,fun b p o hb hp=>⟨(uQ hb).2 hp,rfl⟩⟩
    rw [calG_in ((uQ hb).2 hp),hb];rfl
   have:=Rep.move m q2 (fun q hq=>by injection hq with hq;subst hq;exact List.mem_map.2 ⟨_,hm,rfl⟩)
   simp only [Option.map_some,pinG,gvF_of hn hm] at this
   exact this
  ·rw [q1] at q;injection q with q;subst q
   exact (q2.froz (S':=(calG g gs bs).S) (up':=(calG g gs bs).up) (R:=fun i=>i∈bs) (fun b=>.inl) (fun b=>.inr) (fun q hq=>by injection hq with hq;subst hq;exact hm)).any p
end
def xH(v:Value)(l:Nat):Value:=match v with
 | .agg c=>c.getD l undef
 | v=>v
def Xg(v:Value)(m:Nat):Value:=match v with
 | .tuple c=>c.getD m undef
 | v=>v
def yz(d:D)(l:Nat):Option D:=match d with
 | .ag xs=>xs[l]?
 | d=>if l=0 then some d else none
def Xf(r:D)(m:Nat):Option D:=match r with
 | .tup xs=>xs[m]?
 | d=>if m=0 then some d else none
def ansB(d i:Nat):Bool:=decide (i % 1000=d)&&(decide (1000<=i)&&decide (i<900000))
def ansO(d:Nat)(r:D)(i:Nat):Option Ob:=if ansB d i=true then (Xf r ((i / 1000 - 1) / 20)).bind fun c=>(yz c ((i / 1000 - 1) % 20)).bind unfD else none
def outO(outs:List D):List Gv->Nat->Option Ob
 | [],_=>none
 | (n,j,l)::r,i=>if i=n then (outs[j]?).bind fun c=>(yz c l).bind unfD else outO outs r i
def inG:List Gv->Nat->Bool
 | [],_=>false
 | (n,_,_)::r,i=>(i==n)||inG r i
def qCal(d:Nat)(gs:List Gv)(outs:List D)(i:Nat):Bool:=!ansB d i&&!(inG gs i&&(outO outs gs i).isNone)
def St.cal(σ:St)(d:Nat)(gs:List Gv)(r:D)(outs:List D):St:=
 ⟨fun i=>scT (qCal d gs outs) (σ.t i),fun i=>match ansO d r i with
  | some o=>some o
  | none=>match outO outs gs i with
   | some o=>if ansB d i=true then none else some o
   | none=>if ansB d i=true\/inG gs i=true then none else (σ.b i).map (scO (qCal d gs outs))⟩
def shC(d m l:Nat):D->D
 | .osl _ k rows=>.bs (ansN d m l) k rows.length
 | .opa k _=>.bx (ansN d m l) k
 | c=>c
def shL(d m:Nat):Nat->List D->List D
 | _,[]=>[]
 | l,c::r=>shC d m l c::shL d m (l+1) r
def shE(d m:Nat):D->D
 | .ag xs=>.ag (shL d m 0 xs)
 | c=>shC d m 0 c
def shM(d:Nat):Nat->List D->List D
 | _,[]=>[]
 | m,c::r=>shE d m c::shM d (m+1) r
def shA(d:Nat):D->D
 | .tup xs=>.tup (shM d 0 xs)
 | c=>shE d 0 c
def lenE:D->Bool
 | .ag xs=>decide (xs.length<=20)
 | .tup _=>false
 | .mb _ _=>false
 | _=>true
def lenT:D->Bool
 | .tup xs=>decide (xs.length<=40)&&xs.all lenE
 | c=>lenE c
theorem inG_iff{gs:List Gv}{i:Nat}:inG gs i=true ↔ i∈gvN gs:=by
 induction gs with
 | nil=>simp [inG,gvN]
 | cons p r ih=>obtain ⟨n,j,l⟩:=p;simp [inG,gvN] at ih ⊢;rw [ih]
theorem xaa{outs:List D}{gs:List Gv}{i:Nat}{o:Ob}(h:outO outs gs i=some o):∃ j l c d,(i,j,l)∈gs/\outs[j]?=some c/\yz c l=some d/\unfD d=some o:=by
 induction gs with
 | nil=>cases h
 | cons p r ih=>
  obtain ⟨n,j,l⟩:=p;simp only [outO] at h
  split at h
  ·rename_i e
   subst e;obtain ⟨c,h1,h2⟩:=Option.bind_eq_some_iff.1 h;obtain ⟨d,h3,h4⟩:=Option.bind_eq_some_iff.1 h2;exact ⟨j,l,c,d,by simp,h1,h3,h4⟩
  ·obtain ⟨j',l',c,d,h1,h2⟩:=ih h
   exact ⟨j',l',c,d,List.mem_cons_of_mem _ h1,h2⟩
theorem shL_at(d m:Nat):∀ (l:List D) (q j:Nat),(shL d m q l)[j]?=(l[j]?).map (shC d m (q+j))
 | [],q,j=>by simp [shL]
 | c::l,q,0=>by simp [shL]
 | c::l,q,j+1=>by
  rw [shL,List.getElem?_cons_succ,shL_at d m l (q+1) j,List.getElem?_cons_succ]
  congr 2;omega
theorem shM_at(d:Nat):∀ (l:List D) (q j:Nat),(shM d q l)[j]?=(l[j]?).map (shE d (q+j))
 | [],q,j=>by simp [shM]
 | c::l,q,0=>by simp [shM]
 | c::l,q,j+1=>by
  rw [shM,List.getElem?_cons_succ,shM_at d l (q+1) j,List.getElem?_cons_succ]
  congr 2;omega
theorem shL_len(d m:Nat)(l:List D)(q:Nat):(shL d m q l).length=l.length:=by
 induction l generalizing q with
 | nil=>rfl
 | cons c l ih=>simp [shL,ih]
theorem shM_len(d:Nat)(l:List D)(q:Nat):(shM d q l).length=l.length:=by
 induction l generalizing q with
 | nil=>rfl
 | cons c l ih=>simp [shM,ih]
theorem z3{v:Value}(h:v.oneCell'=true)(l:Nat):xH v l=v:=by cases v<;>first|rfl|cases h
theorem QE{v:Value}(h:v.oneCell'=true)(m:Nat):Xg v m=v:=by cases v<;>first|rfl|cases h
theorem Xk{us:List Value}{m:Nat}{u:Value}(h:us[m]?=some u):us.toArray.getD m undef=u:=Yq (by simpa using h)
theorem RN_at{g:Gh}{w:World}{m:Nat}{x:D}{u:Value}(h:RN g w m x u){l:Nat}{c:D}(hc:yz x l=some c):c=.un\/Rep g.S g.up w (some (.ans m l)) c (xH u l):=by
 have one:∀ d:D,Rep g.S g.up w (some (.ans m 0)) d u->(if l=0 then some d else none)=some c->c=.un\/Rep g.S g.up w (some (.ans m l)) c (xH u l):=by
  intro d h' hc';split at hc'
  ·rename_i e;subst e;injection hc' with hc';subst hc'
   rw [z3 h'.one];exact .inr h'
  ·cases hc'
 cases x with
 | un=>simp only [yz] at hc;split at hc;(injection hc with hc;exact .inl hc.symm);cases hc
 | ag xs=>
  obtain ⟨us,rfl,h1,h2⟩:=h;have hl:l<us.length:=by rw [h1];exact (List.getElem?_eq_some_iff.1 hc).1
  have hu:=List.getElem?_eq_getElem hl;have:xH (.agg us.toArray) l=us[l]:=Xk hu;rw [this];exact .inr (h2 l c _ hc hu)
 | _=>simp only [RN] at h;exact one _ h hc
theorem RNs_at{g:Gh}{w:World}{r:D}{v:Value}(h:RNs g w r v){m l:Nat}{x c:D}(hx:Xf r m=some x)(hc:yz x l=some c):c=.un\/Rep g.S g.up w (some (.ans m l)) c (xH (Xg v m) l):=by
 have one:∀ d:D,RN g w 0 d v->(if m=0 then some d else none)=some x->c=.un\/Rep g.S g.up w (some (.ans m l)) c (xH (Xg v m) l):=by
  intro d h' hx';split at hx'
  ·rename_i e;subst e;injection hx' with hx';subst hx'
   have q:=RN_at h' hc;cases d with
   | un=>simp only [yz] at hc;split at hc;(injection hc with hc;exact .inl hc.symm);cases hc
   | ag xs=>obtain ⟨us,rfl,h1,h2⟩:=h';exact q
   | tup _=>simp only [RN] at h';cases h'
   | mb _ _=>simp only [RN] at h';cases h'
   | bx _ _=>simp only [RN] at h';cases h'
   | el _ _ _ _=>simp only [RN] at h';cases h'
   | bs _ _ _=>simp only [RN] at h';cases h'
   | _=>simp only [RN] at h';rw [QE h'.one];exact q
  ·cases hx'
 cases r with
 | tup xs=>
  obtain ⟨us,rfl,h1,h2⟩:=h;have hl:m<us.length:=by rw [h1];exact (List.getElem?_eq_some_iff.1 hx).1
  have hu:=List.getElem?_eq_getElem hl;have:Xg (.tuple us.toArray) m=us[m]:=Xk hu;rw [this];exact RN_at (h2 m x _ hx hu) hc
 | _=>simp only [RNs] at h;exact one _ h hx
theorem RU_at{g:Gh}{w:World}{j:Nat}{x:D}{u:Value}(h:RU g w j x u){l:Nat}{c:D}(hc:yz x l=some c):c=.un\/Rep g.S g.up w (some (.par j l)) c (xH u l):=by
 have one:∀ d:D,Rep g.S g.up w (some (.par j 0)) d u->(if l=0 then some d else none)=some c->c=.un\/Rep g.S g.up w (some (.par j l)) c (xH u l):=by
  intro d h' hc';split at hc'
  ·rename_i e;subst e;injection hc' with hc';subst hc'
   rw [z3 h'.one];exact .inr h'
  ·cases hc'
 cases x with
 | un=>simp only [yz] at hc;split at hc;(injection hc with hc;exact .inl hc.symm);cases hc
 | ag xs=>
  obtain ⟨us,rfl,h1,h2⟩:=h;have hl:l<us.length:=by rw [h1];exact (List.getElem?_eq_some_iff.1 hc).1
  have hu:=List.getElem?_eq_getElem hl;have:xH (.agg us.toArray) l=us[l]:=Xk hu;rw [this];exact h2 l c _ hc hu
 | _=>simp only [RU] at h;exact one _ h hc
theorem Pure.cell{x c:D}(h:Pure x){l:Nat}(hc:yz x l=some c):Pure c:=by
 cases x with
 | ag xs=>cases h with|ag h=>exact h l c hc
 | _=>simp only [yz] at hc;split at hc;(injection hc with hc;subst hc;exact h);cases hc
theorem Pure.comp{x c:D}(h:Pure x){l:Nat}(hc:Xf x l=some c):Pure c:=by
 cases x with
 | tup xs=>cases h with|tup h=>exact h l c hc
 | _=>simp only [Xf] at hc;split at hc;(injection hc with hc;subst hc;exact h);cases hc
theorem Und.some{up:Nat->Option Pos}{R:Nat->Prop}{b:Nat}(h:Und up R b):∃ i,R i:=by
 induction h with
 | root _ h=>exact ⟨_,h⟩
 | cell _ _ ih=>exact ih
theorem ansB_ok{d m l:Nat}(hd:d<1000)(hm:m<40)(hl:l<20):ansB d (ansN d m l)=true/\((ansN d m l) / 1000 - 1) / 20=m/\((ansN d m l) / 1000 - 1) % 20=l:=by
 unfold ansB ansN;have h1:(1000*(20*m+l+1)+d) / 1000=20*m+l+1:=by omega
 rw [h1];refine ⟨?_,by omega,by omega⟩
 simp only [Bool.and_eq_true,decide_eq_true_eq];omega
theorem xaO{d i:Nat}(h:ansB d i=true):ansN d ((i / 1000 - 1) / 20) ((i / 1000 - 1) % 20)=i/\isP i=false:=by
 unfold ansB at h
 simp only [Bool.and_eq_true,decide_eq_true_eq] at h
 unfold ansN isP;refine ⟨by omega,?_⟩
 simp only [Bool.and_eq_false_iff,decide_eq_false_iff_not];omega
theorem Rep.shC{g:Gh}{w:World}{d m l:Nat}{c:D}{u:Value}(h:Rep g.S g.up w (some (.root (ansN d m l))) c u)(hβ:g.β (ansN d m l)=blkV u)(hκ:g.κ (ansN d m l)=capV u):RC g w none (shC d m l c) u:=by
 cases c with
 | osl e k rows=>
  show u=.slice ((g.β (ansN d m l)).map _) _ _/\_;rw [hβ,hκ];cases h with
  | osl0=>exact ⟨rfl,Nat.zero_le _,by simp [capV,maxLen],fun _=>rfl⟩
  | osl cs' r1 r2 r3 r4 r5 r6 r7=>exact ⟨rfl,r3,r4,fun q=>by cases q⟩
 | opa k r=>
  cases h with
  | opa cs' r1 r2 r3 r4=>exact ⟨_,hβ,rfl⟩
 | _=>exact (h.free (fun _ _ _ q=>by cases q) (fun _ _ q=>by cases q) none).rc
theorem Rel.call{x:Cx}{g:Gh}{σ:St}{a:Act}{w:World}(hr:Rel x g σ a w){d:Nat}(hd:d<1000){gs:List Gv}{bs:List Nat}{vs:List Value}(hnd:nodB (gvN gs)=true)(hnk:nodB (gvK gs)=true)(hdis:∀ b∈bs,b∉gvN gs)
  (hgv:∀ i j l,(i,j,l)∈gs->(∃ o,σ.b i=some o)/\∃ u,vs[j]?=some u/\((∃ k n,RC g w none (.bs i k n) (xH u l))\/(∃ o0,RC g w none (.bx i o0) (xH u l)))) {w':World} {g':Gh} {r:D} {outs:List D} {v:Value}
  (b1:Below 0 w w') (b2:∀ b,b<w.heap.size->(calG g gs bs).up b=none->w'.heap[b]?=w.heap[b]?) (b3:∀ b,(calG g gs bs).S b->g'.S b) (b4:∀ b,b<w.heap.size->g'.S b->(calG g gs bs).S b\/(calG g gs bs).up b≠none) (b5:∀ b,g'.S b->b<w'.heap.size)
  (b6:∀ b p,g'.up b=some p->b<w'.heap.size/\(b<w.heap.size->(calG g gs bs).up b≠none)/\¬ g'.S b) (b7:RNs g' w' r v) (b8:∀ (j:Nat) (d:D) (u:Value),outs[j]?=some d->vs[j]?=some u->RU g' w' j d u)
  (hpu:bs=[]\/(Pure r/\∀ o∈outs,Pure o)) (hlen:lenT r=true):∃ ga,Rel x ga (σ.cal d gs r outs) a w'/\RT ga w' (shA d r) v:=by
 classical
 let Rg:Nat->Prop:=fun i=>i∈gvN gs
 let Rb:Nat->Prop:=fun i=>i∈bs
 let f:Nat->Value:=fun i=>xH (Xg v ((i / 1000 - 1) / 20)) ((i / 1000 - 1) % 20)
 let ga:Gh:=⟨fun i=>if ansB d i=true then blkV (f i) else g.β i,fun i=>if ansB d i=true then capV (f i) else g.κ i,fun b=>if b<w.heap.size/\¬ Und g.up Rg b then g.up b else (g'.up b).map (poutG gs d),fun b=>g'.S b/\¬ Und g.up Rb b⟩
 have hout:∀ b,¬ Und g.up Rg b->(calG g gs bs).up b=none:=fun b q=>Classical.byContradiction fun e=>q (ut.1 e)
 have ev:Ev (fun p=>¬ PU g.up Rg p) (fun p=>p) (qCal d gs outs) (fun i=>!ansB d i&&!inG gs i) g ga w w':=by
  refine ⟨⟨fun b hb=>⟨⟨b3 b (.inl hb),fun q=>(hr.und q).2.2 hb⟩,b2 b (hr.new b hb) (hout b fun q=>(hr.und q).2.2 hb)⟩,fun b p hb hp=>?_,fun b p o hb hp=>⟨fun q=>hp ((uQ hb).1 q),rfl⟩⟩,fun i hi=>?_,fun i hi=>?_⟩
  ·have hn:¬ Und g.up Rg b:=fun q=>hp ((uQ hb).1 q)
   have hlt:=(hr.own b p hb).1;refine ⟨?_,b2 b hlt (hout b hn)⟩;show (if _ then _ else _)=_
   rw [if_pos ⟨hlt,hn⟩];exact hb
  ·simp only [qCal,Bool.and_eq_true,Bool.not_eq_true'] at hi
   exact ⟨by show (if _ then _ else _)=_;rw [if_neg (by rw [hi.1];simp)],by show (if _ then _ else _)=_;rw [if_neg (by rw [hi.1];simp)]⟩
  ·simp only [Bool.and_eq_true,Bool.not_eq_true'] at hi
   refine ⟨by simp [qCal,hi.1,hi.2],fun q=>?_,rfl⟩
   have:inG gs i=true:=inG_iff.2 q;rw [hi.2] at this;cases this
 have hR:=hr.ev ev b1 (fun b hb hg=>b2 b (by have:=hr.bel.size;omega) (hout b fun q=>hg ((hr.und q).2.1 hb))) (fun b hb hs=>by
  rcases b4 b (by have:=hr.bel.size;omega) hs.1 with (q|q)|q
  ·exact .inl q
  ·exact absurd q hs.2
  ·exact .inr ((hr.und (ut.1 q)).2.1 hb)) (fun b hs=>b5 b hs.1) (fun b p hp=>by
  simp only [ga] at hp
  split at hp
  ·rename_i q
   obtain ⟨o1,o2,o3⟩:=hr.own b p hp;refine ⟨by have:=b1.size;omega,o2,fun hs=>?_⟩
   rcases b4 b q.1 hs.1 with (r|r)|r
   ·exact o3 r
   ·exact hs.2 r
   ·exact q.2 (ut.1 r)
  ·obtain ⟨p',hp',-⟩:=Option.map_eq_some_iff.1 hp
   obtain ⟨o1,o2,o3⟩:=b6 b p' hp';exact ⟨o1,fun q=>(hr.und (ut.1 (o2 (by have:=hr.bel.size;omega)))).2.1 q,fun hs=>o3 hs.1⟩)
 have hmv:∀ (p:Option Pos) (c:D) (u:Value),Rep g'.S g'.up w' p c u->(bs=[]\/Pure c)->Rep ga.S ga.up w' (p.map (poutG gs d)) c u:=fun p c u h hp=>by
  refine Rep.pmove (fun b p hb=>⟨?_,rfl⟩) (fun b o=>rfl) h (hp.imp (fun q b hs=>⟨⟨hs,fun e=>?_⟩,rfl⟩) id)
  ·show (if _ then _ else _)=_
   rw [if_neg (fun q=>q.2 (ut.1 ((b6 b p hb).2.1 q.1))),hb];rfl
  ·obtain ⟨i,hi⟩:=e.some
   simp only [Rb,q] at hi
   cases hi
 have hcell:∀ (m l:Nat) (y c:D),Xf r m=some y->yz y l=some c->c=.un\/Rep ga.S ga.up w' (some (.root (ansN d m l))) c (xH (Xg v m) l):=fun m l y c h1 h2=>by
  rcases RNs_at b7 h1 h2 with q|q
  ·exact .inl q
  ·exact .inr (hmv _ _ _ q (hpu.imp id fun p=>(p.1.comp h1).cell h2))
 have hβ:∀ i,ansB d i=true->ga.β i=blkV (f i)/\ga.κ i=capV (f i):=fun i hi=>⟨by show (if _ then _ else _)=_;rw [if_pos hi],by show (if _ then _ else _)=_;rw [if_pos hi]⟩
 have hRC:∀ (m l:Nat) (y c:D) (u:Value),m<40->l<20->Xf r m=some y->yz y l=some c->xH (Xg v m) l=u->RE ga w' (shC d m l c) u/\(c≠.un->RC ga w' none (shC d m l c) u):=fun m l y c u hm hl h1 h2 e=>by
  obtain ⟨a1,a2,a3⟩:=ansB_ok hd hm hl;have hf:f (ansN d m l)=u:=by show xH (Xg v _) _=u;rw [a2,a3];exact e
  obtain ⟨c1,c2⟩:=hβ _ a1;rw [hf] at c1 c2
  rcases hcell m l y c h1 h2 with q|q
  ·subst q;exact ⟨trivial,fun q=>absurd rfl q⟩
  ·rw [e] at q
   have:=q.shC c1 c2;exact ⟨this.re,fun _=>this⟩
 refine ⟨ga,⟨hR.bel,hR.fr,hR.dfr,hR.sz,hR.tm,hR.s0,hR.old,hR.new,hR.own,fun i o hi=>?_,fun i o hi hq=>?_⟩,?_⟩
 ·simp only [St.cal] at hi
  split at hi
  ·rename_i o' ho
   injection hi with hi;subst hi
   unfold ansO at ho
   split at ho
   ·rename_i hb
    obtain ⟨y,h1,h2⟩:=Option.bind_eq_some_iff.1 ho;obtain ⟨c,h3,h4⟩:=Option.bind_eq_some_iff.1 h2;rcases hcell _ _ y c h1 h3 with q|q
    ·subst q;cases h4
    ·rw [(xaO hb).1] at q
     exact q.ro h4 (hβ i hb).1 (fun _ _ _ _=>(hβ i hb).2)
   ·cases ho
  ·split at hi
   ·rename_i o' ho
    split at hi
    ·cases hi
    ·rename_i hb
     injection hi with hi;subst hi
     obtain ⟨j,l,y,c,m1,m2,m3,m4⟩:=xaa ho;obtain ⟨-,u,u1,u2⟩:=hgv i j l m1;have hq:=RU_at (b8 j y u m2 u1) m3;rcases hq with q|q
     ·subst q;cases m4
     ·have q:=hmv _ _ _ q (hpu.imp id fun p=>(p.2 y (List.mem_of_getElem? m2)).cell m3)
      simp only [Option.map_some,poutG,gvB_of hnk m1] at q
      have e1:ga.β i=g.β i:=by show (if _ then _ else _)=_;rw [if_neg hb]
      have e2:ga.κ i=g.κ i:=by show (if _ then _ else _)=_;rw [if_neg hb]
      rcases u2 with ⟨k,n,u2⟩|⟨o0,u2⟩
      ·obtain ⟨hu,-,-,u3⟩:=u2
       rw [hu] at q
       refine q.ro m4 ?_ fun e k' rows hc=>?_
       ·rw [e1];cases g.β i<;>rfl
       ·rw [e2]
        cases hg:g.β i with
        | none=>rw [u3 hg];rfl
        | some b=>rfl
      ·obtain ⟨b,hb',hu⟩:=u2
       rw [hu] at q
       refine q.ro m4 (by rw [e1,hb'];rfl) fun e k' rows hc=>?_
       subst hc;cases q
   ·split at hi
    ·cases hi
    ·rename_i hn
     refine hR.ob i o ?_;simp only [St.sc];rw [if_pos (by simp only [Bool.and_eq_true,Bool.not_eq_true'];simp only [not_or,Bool.not_eq_true] at hn;exact hn)]
     exact hi
 ·have hna:ansB d i=false:=by
   cases hb:ansB d i with
   | false=>rfl
   | true=>rw [(xaO hb).2] at hq;cases hq
  have e1:ga.β i=g.β i:=by show (if _ then _ else _)=_;rw [if_neg (by rw [hna];simp)]
  have e2:ga.κ i=g.κ i:=by show (if _ then _ else _)=_;rw [if_neg (by rw [hna];simp)]
  have hex:∃ o',σ.b i=some o':=by
   simp only [St.cal] at hi
   split at hi
   ·rename_i o' ho
    unfold ansO at ho
    rw [hna] at ho;simp at ho
   ·split at hi
    ·rename_i o' ho
     obtain ⟨j,l,y,c,m1,-⟩:=xaa ho;exact (hgv i j l m1).1
    ·split at hi
     ·cases hi
     ·obtain ⟨o',q,-⟩:=Option.map_eq_some_iff.1 hi;exact ⟨o',q⟩
  obtain ⟨o',ho'⟩:=hex;rw [e1,e2];exact hr.par i o' ho' hq
 ·have hE:∀ (m:Nat) (y:D) (u:Value),m<40->lenE y=true->Xf r m=some y->Xg v m=u->RN g' w' m y u->RE ga w' (shE d m y) u:=by
   intro m y u hm hly h1 hu hN;have one:∀ u',yz y 0=some y->xH u 0=u'->RE ga w' (shC d m 0 y) u':=fun u' h2 e=>(hRC m 0 y y u' hm (by omega) h1 h2 (by rw [hu];exact e)).1
   cases y with
   | un=>trivial
   | ag xs=>
    obtain ⟨us,rfl,n1,n2⟩:=hN;simp only [lenE,decide_eq_true_eq] at hly
    refine ⟨us,rfl,by rw [shL_len,n1],fun l c z hc hz=>?_⟩
    rw [shL_at,Nat.zero_add] at hc
    obtain ⟨c0,q1,rfl⟩:=Option.map_eq_some_iff.1 hc;have hl:l<20:=by have:=(List.getElem?_eq_some_iff.1 q1).1;omega
    have hne:c0≠.un:=fun e=>by subst e;cases n2 l _ z q1 hz
    exact (hRC m l _ c0 z hm hl h1 q1 (by rw [hu];exact Xk hz)).2 hne
   | tup _=>cases hly
   | mb _ _=>cases hly
   | _=>simp only [RN] at hN;exact one u rfl (z3 hN.one 0)
  cases r with
  | tup xs=>
   obtain ⟨us,rfl,n1,n2⟩:=b7;simp only [lenT,Bool.and_eq_true,decide_eq_true_eq] at hlen
   refine ⟨us,rfl,by rw [shM_len,n1],fun m y u hy hu=>?_⟩
   rw [shM_at,Nat.zero_add] at hy
   obtain ⟨y0,q1,rfl⟩:=Option.map_eq_some_iff.1 hy;exact hE m y0 u (by have:=(List.getElem?_eq_some_iff.1 q1).1;omega) (List.all_eq_true.1 hlen.2 y0 (List.mem_of_getElem? q1)) q1 (Xk hu) (n2 m y0 u q1 hu)
  | un=>trivial
  | ag xs=>exact (hE 0 (.ag xs) v (by omega) hlen rfl (by obtain ⟨us,rfl,-⟩:=b7;rfl) b7).rt
  | mb _ _=>cases hlen
  | _=>simp only [RNs,RN] at b7;simp only [lenT] at hlen;exact (hE 0 _ v (by omega) hlen rfl (QE b7.one 0) (by simp only [RN];exact b7)).rt
end
end Go.Proofs.YtmnokalddmlogaaGreat
