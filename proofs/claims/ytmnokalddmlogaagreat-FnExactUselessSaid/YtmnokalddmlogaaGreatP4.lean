/- Parts of the proof. -/
import Derived.Test.YtmnokalddmlogaaGreatP3
set_option linter.unusedSimpArgs false
set_option linter.unusedVariables false
set_option maxRecDepth 100000
set_option maxHeartbeats 8000000
namespace Go.Proofs.YtmnokalddmlogaaGreat
section
open Go.RowKit
def aRv(P:Program)(σ:St):ResultVar->Option (Prop×D)
 | .tmp t=>some (oblT (σ.t t),xz (σ.t t))
 | .cell t ty=>match Xa P σ ty (xz (σ.t t)) with
  | some (ob,y)=>some (oblT (σ.t t)/\ob,y)
  | none=>none
def aRvs(P:Program)(σ:St):List ResultVar->Option (Prop×List D)
 | []=>some (True,[])
 | r::l=>match aRv P σ r,aRvs P σ l with
  | some (ob,y),some (ob',ys)=>some (ob/\ob',y::ys)
  | _,_=>none
def mkRes:List D->D
 | [y]=>y
 | ys=>.tup ys
def rvS(tmps:Array Value):ResultVar->Sem Value
 | .tmp t=>pure (tmps.getD t undef)
 | .cell p t=>do loadVar t (<- asAddr (tmps.getD p undef))
theorem xcV(fn:Func)(tmps:Array Value):results fn tmps=(do let vs <- fn.results.mapM (rvS tmps);pure (if h:vs.size=1 then vs[0] else .tuple vs)):=by
 unfold results
 congr 1
theorem aRv_ok{x:Cx}{g:Gh}{σ:St}{a:Act}{w:World}(hr:Rel x g σ a w){rv:ResultVar}{ob:Prop}{y:D}(h:aRv x.P σ rv=some (ob,y))(ho:ob) :
  ∃ v,(rvS a.tmps rv).run x.P w=.ok v w/\RE g w y v:=by
 unfold aRv at h
 split at h
 ·rename_i t
  injection h with h;injection h with e1 e2
  subst e1 e2;exact ⟨_,rfl,zP (hr.tm t) ho⟩
 ·rename_i t ty
  split at h
  ·rename_i ob' y' h'
   injection h with h;injection h with e1 e2
   subst e1 e2;have hb:=zP (hr.tm t) ho.1;obtain ⟨r,r1,r2⟩:=xaJ h' ho.2 hr hb;refine ⟨r,?_,r2⟩;have hp:∃ ad,a.tmps.getD t undef=.pointer (some ad):=by
    generalize a.tmps.getD t undef=v at hb
    unfold Xa at h'
    split at h'
    ·rename_i row hrow
     rw [hrow] at hb
     obtain ⟨b,o,rfl⟩:=Rep.pt_shape (show Rep g.S g.up w none (.pt row) v from hb);exact ⟨_,rfl⟩
    ·rename_i id off hrow
     rw [hrow] at hb
     obtain ⟨b,-,rfl⟩:=hb;exact ⟨_,rfl⟩
    ·rename_i id k i off hrow
     rw [hrow] at hb
     obtain ⟨b,-,rfl⟩:=hb;exact ⟨_,rfl⟩
    ·cases h'
   obtain ⟨ad,had⟩:=hp;rw [had] at r1
   simp only [rvS,had,asAddr,Sem.run_bind,Sem.run_pure,Result.andThen_ok]
   simpa [Instr.loadAt,Instr.sureAddr] using r1
  ·cases h
theorem aRvs_ok{x:Cx}{g:Gh}{σ:St}{a:Act}{w:World}(hr:Rel x g σ a w):∀ (l:List ResultVar) (ob:Prop) (ys:List D),aRvs x.P σ l=some (ob,ys)->ob ->
  ∃ vs:List Value,(l.mapM (rvS a.tmps):Sem (List Value)).run x.P w=.ok vs w/\vs.length=ys.length/\∀ (j:Nat) (y:D) (u:Value),ys[j]?=some y->vs[j]?=some u->RE g w y u
 | [],ob,ys,h,ho=>by
  injection h with h;injection h with e1 e2
  subst e2;exact ⟨[],rfl,rfl,fun j y u q=>by simp at q⟩
 | r::l,ob,ys,h,ho=>by
  unfold aRvs at h
  split at h
  ·rename_i ob1 y1 ob2 ys2 h1 h2
   injection h with h;injection h with e1 e2
   subst e1 e2;obtain ⟨v,v1,v2⟩:=aRv_ok hr h1 ho.1;obtain ⟨vs,w1,w2,w3⟩:=aRvs_ok hr l _ _ h2 ho.2;refine ⟨v::vs,?_,by simp [w2],fun j y u q r=>?_⟩
   ·rw [List.mapM_cons,Sem.run_bind,v1]
    simp only [Result.andThen_ok,Sem.run_bind,w1,Sem.run_pure]
   ·cases j with
    | zero=>simp at q r;subst q r;exact v2
    | succ j=>exact w3 j y u (by simpa using q) (by simpa using r)
  ·cases h
def pPar(j l:Nat):Nat:=900000+100*j+l
def entL(j:Nat):Nat->List D->List D
 | _,[]=>[]
 | l,c::r=>refC (pPar j l) c::entL j (l+1) r
def entD(j:Nat):D->D
 | .ag xs=>.ag (entL j 0 xs)
 | c=>refC (pPar j 0) c
def entO(ars:List D)(i:Nat):Option Ob:=if isP i=true then (ars[(i - 900000) / 100]?).bind fun c=>(yz c ((i - 900000) % 100)).bind unfD else none
def St.ent(ars:List D):St:=⟨fun i=>match ars[i]? with
 | some d=>entD i d
 | none=>.un,entO ars⟩
def lenA:List D->Bool
 | []=>true
 | .ag xs::r=>decide (xs.length<=100)&&lenA r
 | _::r=>lenA r
theorem VX:∀ (l:List D),lenA l=true->∀ (j:Nat) (xs:List D),l[j]?=some (.ag xs)->xs.length<=100
 | [],_,j,xs,h=>by simp at h
 | c::l,hl,j,xs,h=>by
  have ht:lenA l=true:=by cases c<;>simp_all [lenA]
  cases j with
  | zero=>simp at h;subst h;simp only [lenA,Bool.and_eq_true,decide_eq_true_eq] at hl;exact hl.1
  | succ j=>exact VX l ht j xs (by simpa using h)
def opnS:Nat->List D->St->St
 | _,[],σ=>σ
 | j,.opa _ row::r,σ=>opnS (j+1) r (σ.unfB (pPar j 0) row)
 | j,_::r,σ=>opnS (j+1) r σ
def opnB:List D->Bool
 | []=>true
 | .opa _ row::r=>row.all wt&&opnB r
 | _::r=>opnB r
theorem entL_at(j:Nat):∀ (l:List D) (q n:Nat),(entL j q l)[n]?=(l[n]?).map (refC (pPar j (q+n)))
 | [],q,n=>by simp [entL]
 | c::l,q,0=>by simp [entL]
 | c::l,q,n+1=>by
  rw [entL,List.getElem?_cons_succ,entL_at j l (q+1) n,List.getElem?_cons_succ,show q+1+n=q+(n+1) by omega]
theorem entL_len(j:Nat)(l:List D)(q:Nat):(entL j q l).length=l.length:=by
 induction l generalizing q with
 | nil=>rfl
 | cons c l ih=>simp [entL,ih]
theorem RA_at{g:Gh}{w:World}{j:Nat}{x:D}{u:Value}(h:RA g w j x u){l:Nat}{c:D}(hc:yz x l=some c):Rep g.S g.up w (some (.par j l)) c (xH u l):=by
 have one:∀ d:D,Rep g.S g.up w (some (.par j 0)) d u->(if l=0 then some d else none)=some c->Rep g.S g.up w (some (.par j l)) c (xH u l):=by
  intro d h' hc';split at hc'
  ·rename_i e;subst e;injection hc' with hc';subst hc'
   rw [z3 h'.one];exact h'
  ·cases hc'
 cases x with
 | ag xs=>
  obtain ⟨us,rfl,h1,h2⟩:=h;have hl:l<us.length:=by rw [h1];exact (List.getElem?_eq_some_iff.1 hc).1
  have hu:=List.getElem?_eq_getElem hl;have:xH (.agg us.toArray) l=us[l]:=Xk hu;rw [this];exact h2 l c _ hc hu
 | _=>simp only [RA] at h;exact one _ h hc
def enP:Pos->Pos
 | .par j l=>.root (pPar j l)
 | p=>p
theorem UO{j l:Nat}(hj:j<=900)(hl:l<100):isP (pPar j l)=true/\(pPar j l - 900000) / 100=j/\(pPar j l - 900000) % 100=l:=by
 unfold isP pPar;refine ⟨?_,by omega,by omega⟩
 simp only [Bool.and_eq_true,decide_eq_true_eq];omega
theorem pPar_of{i:Nat}(h:isP i=true):pPar ((i - 900000) / 100) ((i - 900000) % 100)=i:=by
 unfold isP at h
 simp only [Bool.and_eq_true,decide_eq_true_eq] at h
 unfold pPar;omega
def entG(g:Gh)(vs:List Value):Gh:=⟨fun i=>if isP i=true then blkV (xH (vs.getD ((i - 900000) / 100) undef) ((i - 900000) % 100)) else none,fun i=>if isP i=true then capV (xH (vs.getD ((i - 900000) / 100) undef) ((i - 900000) % 100)) else 0,fun b=>(g.up b).map enP,g.S⟩
theorem Rel.entry{P:Program}{N:Nat}{w:World}{g:Gh}{ars:List D}{vs:List Value}(h1:∀ b,g.S b->b<w.heap.size)(h2:∀ b p,g.up b=some p->b<w.heap.size/\¬ g.S b)(hl:vs.length=ars.length)(hv:∀ (j:Nat) (d:D) (u:Value),ars[j]?=some d->vs[j]?=some u->RA g w j d u)(hA:lenA ars=true)(hn:ars.length<=900)(hN:ars.length<=N) :
  Rel ⟨P,N,g.S,fun b=>g.up b≠none,w,(entG g vs).β,(entG g vs).κ⟩ (entG g vs) (St.ent ars) ⟨vs.toArray++Array.replicate (N - vs.toArray.size) undef,[]⟩ w:=by
 have mv:∀ {p:Option Pos} {c:D} {u:Value},Rep g.S g.up w p c u->Rep (entG g vs).S (entG g vs).up w (p.map enP) c u:=fun h=>by
  have m:Mv (fun _=>True) enP g (entG g vs) w w:=⟨fun b hb=>⟨hb,rfl⟩,fun b p hb _=>⟨by show (g.up b).map enP=_;rw [hb];rfl,rfl⟩,fun b p o _ _=>⟨trivial,rfl⟩⟩
  exact Rep.move m h (fun _ _=>trivial)
 have hcell:∀ (j l:Nat) (d c:D),ars[j]?=some d->yz d l=some c->l<100->∃ u,vs[j]?=some u/\Rep (entG g vs).S (entG g vs).up w (some (.root (pPar j l))) c (xH u l)/\(entG g vs).β (pPar j l)=blkV (xH u l)/\(entG g vs).κ (pPar j l)=capV (xH u l):=fun j l d c hd hc hl'=>by
  have hj:j<vs.length:=by rw [hl];exact (List.getElem?_eq_some_iff.1 hd).1
  have hu:vs[j]?=some vs[j]:=List.getElem?_eq_getElem hj;obtain ⟨e1,e2,e3⟩:=UO (j:=j) (l:=l) (by omega) hl'
  refine ⟨vs[j],hu,mv (RA_at (hv j d _ hd hu) hc),?_,?_⟩
  ·show (if _ then _ else _)=_
   rw [if_pos e1,e2,e3,ym hu]
  ·show (if _ then _ else _)=_
   rw [if_pos e1,e2,e3,ym hu]
 refine ⟨Below.refl _ _,fun _ _ _=>rfl,rfl,by simp [hl];omega,fun i=>?_,fun _ q=>q,fun b _ q=>.inl q,h1,fun b p hp=>?_,fun i o ho=>?_,fun i o _ _=>⟨rfl,rfl⟩⟩
 ·simp only [St.ent]
  cases ha:ars[i]? with
  | none=>trivial
  | some d=>
   have hlt:i<vs.length:=by rw [hl];exact (List.getElem?_eq_some_iff.1 ha).1
   have hg:(vs.toArray++Array.replicate (N - vs.toArray.size) undef).getD i undef=vs[i]:=by
    rw [Array.getD_eq_getD_getElem?,Array.getElem?_append_left (by simpa using hlt)]
    simp [List.getElem?_eq_getElem hlt]
   rw [hg];have hu:vs[i]?=some vs[i]:=List.getElem?_eq_getElem hlt;have hri:=hv i d _ ha hu;have one:∀ c,yz d 0=some c->vs[i].oneCell'=true->RC (entG g vs) w none (refC (pPar i 0) c) vs[i]:=fun c hc h1=>by
    obtain ⟨u,q1,q2,q3,q4⟩:=hcell i 0 d c ha hc (by omega)
    rw [hu] at q1;injection q1 with q1;subst q1
    rw [z3 h1] at q2 q3 q4
    exact q2.ref q3 q4
   cases d with
   | ag xs=>
    have hx:=VX ars hA i xs ha;obtain ⟨us,e,u1,u2⟩:=hri;refine RE.rt (d:=.ag (entL i 0 xs)) ⟨us,e,by rw [entL_len];exact u1,fun l c z hc hz=>?_⟩
    rw [entL_at,Nat.zero_add] at hc
    obtain ⟨c0,q1,rfl⟩:=Option.map_eq_some_iff.1 hc;obtain ⟨u,r1,r2,r3,r4⟩:=hcell i l _ c0 ha q1 (by have:=(List.getElem?_eq_some_iff.1 q1).1;omega)
    rw [hu] at r1;injection r1 with r1;subst r1
    have:xH vs[i] l=z:=by rw [e];exact Xk hz
    rw [this] at r2 r3 r4
    exact r2.ref r3 r4
   | un=>trivial
   | tup _=>simp only [RA] at hri;cases hri
   | mb _ _=>simp only [RA] at hri;cases hri
   | bx _ _=>simp only [RA] at hri;cases hri
   | el _ _ _ _=>simp only [RA] at hri;cases hri
   | bs _ _ _=>simp only [RA] at hri;cases hri
   | _=>simp only [RA] at hri;exact (one _ rfl hri.one).re.rt
 ·obtain ⟨p',hp',-⟩:=Option.map_eq_some_iff.1 (show (g.up b).map enP=some p from hp)
  obtain ⟨q1,q2⟩:=h2 b p' hp';exact ⟨q1,fun _=>by show g.up b≠none;rw [hp'];simp,q2⟩
 ·have ho:entO ars i=some o:=ho
  unfold entO at ho
  split at ho
  ·rename_i hp
   obtain ⟨d,q1,q2⟩:=Option.bind_eq_some_iff.1 ho;obtain ⟨c,q3,q4⟩:=Option.bind_eq_some_iff.1 q2;obtain ⟨u,r1,r2,r3,r4⟩:=hcell _ _ d c q1 q3 (Nat.mod_lt _ (by omega))
   rw [pPar_of hp] at r2 r3 r4
   exact r2.ro q4 r3 (fun _ _ _ _=>r4)
  ·cases ho
theorem opnB_at:∀ (l:List D),opnB l=true->∀ (j k:Nat) (row:List D),l[j]?=some (.opa k row)->row.all wt=true
 | [],_,j,_,row,h=>by simp at h
 | c::l,hl,j,k,row,h=>by
  have ht:opnB l=true:=by cases c<;>simp_all [opnB]
  cases j with
  | zero=>simp at h;subst h;simp only [opnB,Bool.and_eq_true] at hl;exact hl.1
  | succ j=>exact opnB_at l ht j k row (by simpa using h)
theorem opn_ok{x:Cx}{a:Act}{w:World}:∀ (l:List D) (j:Nat) (σ:St) (g:Gh),Rel x g σ a w->opnB l=true->j+l.length<=900->(∀ (q k:Nat) (row:List D),l[q]?=some (.opa k row)->σ.b (pPar (j+q) 0)=some (.box row))->∃ g',Rel x g' (opnS j l σ) a w
 | [],j,σ,g,h,_,_,_=>⟨g,h⟩
 | c::l,j,σ,g,h,hb,hl,hr=>by
  simp only [List.length_cons] at hl
  have tl:∀ σ' g',opnS j (c::l) σ=opnS (j+1) l σ'->Rel x g' σ' a w->opnB l=true->(∀ (q k:Nat) (row:List D),l[q]?=some (.opa k row)->σ'.b (pPar (j+1+q) 0)=some (.box row))->∃ g',Rel x g' (opnS j (c::l) σ) a w:=fun σ' g' e h1 h2 h3=>by
   rw [e];exact opn_ok l (j+1) σ' g' h1 h2 (by omega) h3
  have rest:∀ (q k:Nat) (row:List D),l[q]?=some (.opa k row)->σ.b (pPar (j+1+q) 0)=some (.box row):=fun q k row hq=>by
   have:=hr (q+1) k row (by simpa using hq)
   rw [show j+(q+1)=j+1+q by omega] at this;exact this
  cases c with
  | opa k row=>
   simp only [opnB,Bool.and_eq_true] at hb
   have h0:=hr 0 k row rfl;obtain ⟨g1,q1⟩:=h.unfB (id:=pPar j 0) h0 hb.1 (by unfold pPar;omega)
   refine tl _ g1 rfl q1 hb.2 fun q k' row' hq=>?_
   have hlt:=(List.getElem?_eq_some_iff.1 hq).1;simp only [St.unfB];rw [if_neg (by unfold pPar;omega)]
   have:unfO (pPar j 0) row (pPar (j+1+q) 0)=none:=by
    unfold unfO;rw [if_neg (by unfold pPar;omega)]
   rw [this];simp only;rw [rest q k' row' hq];simp only [Option.map_some,scO];have hdeep:∀ y∈row',scC (pUn (pPar j 0) row) y=y:=fun y hy=>by
    have:=opnB_at l hb.2 q k' row' hq;have:=List.all_eq_true.1 this y hy;cases y<;>first|rfl|cases this
   rw [List.map_congr_left hdeep,List.map_id']
  | _=>exact tl σ g rfl h (by simpa [opnB] using hb) rest
def YV:List Nat->St->Option (Prop×St)
 | [],σ=>some (True,σ)
 | i::r,σ=>match σ.b i with
  | some (.box _)=>match foldB σ i with
   | some (ob,_,σ1)=>match YV r σ1 with
    | some (o2,σ2)=>some (ob/\o2,σ2)
    | none=>none
   | none=>none
  | _=>YV r σ
theorem YW{x:Cx}{a:Act}{w:World}:∀ (l:List Nat) {g:Gh} {σ σ':St} {ob:Prop},Rel x g σ a w->YV l σ=some (ob,σ')->ob->∃ g',Rel x g' σ' a w
 | [],g,σ,σ',ob,h,hf,ho=>by injection hf with hf;injection hf with e1 e2;subst e2;exact ⟨g,h⟩
 | i::l,g,σ,σ',ob,h,hf,ho=>by
  unfold YV at hf
  split at hf
  ·split at hf
   ·rename_i ob1 ds σ1 h1
    split at hf
    ·rename_i o2 σ2 h2
     injection hf with hf;injection hf with e1 e2
     subst e1 e2;obtain ⟨g1,q1⟩:=h.foldB h1 ho.1;exact YW l q1 h2 ho.2
    ·cases hf
   ·cases hf
  ·exact YW l h hf ho
def boxP:Nat->List D->List Nat
 | _,[]=>[]
 | j,.opa _ _::r=>pPar j 0::boxP (j+1) r
 | j,_::r=>boxP (j+1) r
def boxC:List D->List Nat
 | []=>[]
 | .bx id _::r=>id::boxC r
 | _::r=>boxC r
def cellsY:List D->List D
 | []=>[]
 | y::r=>zr y++cellsY r
def gvY:Nat->List D->List Gv
 | _,[]=>[]
 | m,y::r=>gvL m 0 (zr y)++gvY (m+1) r
def treY(σ:St):D->Option (Prop×D)
 | .ag xs=>match fdL σ xs with
  | some (ob,ds)=>some (ob,.ag ds)
  | none=>none
 | .un=>some (True,.un)
 | .tup _=>none
 | .mb _ _=>none
 | c=>fdC σ c
def treL(σ:St):List D->Option (Prop×List D)
 | []=>some (True,[])
 | y::r=>match treY σ y,treL σ r with
  | some (o1,d),some (o2,ds)=>some (o1/\o2,d::ds)
  | _,_=>none
def outC(σ:St)(ids:List Nat)(nm:Nat):D->D
 | .opa k _=>if pOut ids nm=true then (match σ.b nm with
  | some (.box row)=>if row.all wt=true then .opa k row else .un
  | _=>.un) else .un
 | .osl _ _ rows=>if pOut ids nm=true then (match σ.b nm with
  | some (.arr e k rows')=>if rows'.length=rows.length then .osl e k rows' else .un
  | _=>.un) else .un
 | _=>.un
def outL(σ:St)(ids:List Nat)(j:Nat):Nat->List D->List D
 | _,[]=>[]
 | l,c::r=>outC σ ids (pPar j l) c::outL σ ids j (l+1) r
def ownB:D->Bool
 | .osl _ _ _=>true
 | .opa _ _=>true
 | _=>false
def outD(σ:St)(ids:List Nat)(j:Nat):D->D
 | .ag xs=>if xs.any ownB=true then .ag (outL σ ids j 0 xs) else .un
 | c=>outC σ ids (pPar j 0) c
def Y6(σ:St)(ids:List Nat):Nat->List D->List D
 | _,[]=>[]
 | j,c::r=>outD σ ids j c::Y6 σ ids (j+1) r
def retM(P:Program)(rs:List ResultVar)(ars:List D)(Rs:D->List D->Prop)(σ:St):Prop:=match YV (boxP 0 ars) σ with
 | some (o1,σ1)=>match aRvs P σ1 rs with
  | some (_,ys0)=>match YV (boxC (cellsY ys0)) σ1 with
   | some (o2,σ2)=>match aRvs P σ2 rs with
    | some (o3,ys)=>match treL σ2 ys with
     | some (o4,zs)=>o1/\o2/\o3/\o4/\nodB (gvN (gvY 0 ys))=true/\Rs (mkRes zs) (Y6 σ2 (gvN (gvY 0 ys)) 0 ars)
     | none=>False
    | none=>False
   | none=>False
  | none=>False
 | none=>False
def retK(P:Program)(rs:List ResultVar)(ars:List D)(Rs:D->List D->Prop):Exit->St->Prop
 | .normal,σ=>retM P rs ars Rs σ
 | .ret,σ=>retM P rs ars Rs σ
 | _,_=>False
theorem gvY_of:∀ (ys:List D) (q m:Nat) (y c:D) (l i:Nat),ys[m]?=some y->(zr y)[l]?=some c->idC c=some i->(i,q+m,l)∈gvY q ys
 | [],q,m,y,c,l,i,h,_,_=>by simp at h
 | z::ys,q,0,y,c,l,i,h,hc,hi=>by
  simp at h;subst h
  have:=gvL_of q _ 0 l c i hc hi;rw [Nat.zero_add] at this
  exact List.mem_append_left _ this
 | z::ys,q,m+1,y,c,l,i,h,hc,hi=>by
  have:=gvY_of ys (q+1) m y c l i (by simpa using h) hc hi
  rw [show q+1+m=q+(m+1) by omega] at this
  exact List.mem_append_right _ this
theorem treL_at{σ:St}:∀ (l:List D) (ob:Prop) (ds:List D),treL σ l=some (ob,ds)->ob->ds.length=l.length/\∀ (j:Nat) (c d:D),l[j]?=some c->ds[j]?=some d->∃ o1,treY σ c=some (o1,d)/\o1
 | [],ob,ds,h,ho=>by injection h with h;injection h with e1 e2;subst e2;exact ⟨rfl,fun j c d q=>by simp at q⟩
 | c::l,ob,ds,h,ho=>by
  unfold treL at h
  split at h
  ·rename_i o1 d o2 ds' h1 h2
   injection h with h;injection h with e1 e2
   subst e1 e2;obtain ⟨i1,i2⟩:=treL_at l o2 ds' h2 ho.2;refine ⟨by simp [i1],fun j c' d' q1 q2=>?_⟩
   cases j with
   | zero=>simp at q1 q2;subst q1 q2;exact ⟨o1,h1,ho.1⟩
   | succ j=>exact i2 j c' d' (by simpa using q1) (by simpa using q2)
  ·cases h
theorem outL_at(σ:St)(ids:List Nat)(j:Nat):∀ (l:List D) (q n:Nat),(outL σ ids j q l)[n]?=(l[n]?).map (outC σ ids (pPar j (q+n)))
 | [],q,n=>by simp [outL]
 | c::l,q,0=>by simp [outL]
 | c::l,q,n+1=>by
  rw [outL,List.getElem?_cons_succ,outL_at σ ids j l (q+1) n,List.getElem?_cons_succ,show q+1+n=q+(n+1) by omega]
theorem outL_len(σ:St)(ids:List Nat)(j:Nat)(l:List D)(q:Nat):(outL σ ids j q l).length=l.length:=by
 induction l generalizing q with
 | nil=>rfl
 | cons c l ih=>simp [outL,ih]
theorem xbA(σ:St)(ids:List Nat):∀ (l:List D) (q n:Nat),(Y6 σ ids q l)[n]?=(l[n]?).map (outD σ ids (q+n))
 | [],q,n=>by simp [Y6]
 | c::l,q,0=>by simp [Y6]
 | c::l,q,n+1=>by
  rw [Y6,List.getElem?_cons_succ,xbA σ ids l (q+1) n,List.getElem?_cons_succ,show q+1+n=q+(n+1) by omega]
def reP(gs:List Gv):Pos->Pos
 | .root i=>match gvF gs i with
  | some (m,l)=>.ans m l
  | none=>if isP i=true then .par ((i - 900000) / 100) ((i - 900000) % 100) else .root i
 | p=>p
theorem gvF_none{gs:List Gv}{i:Nat}(h:pOut (gvN gs) i=true):gvF gs i=none:=by
 cases q:gvF gs i with
 | none=>rfl
 | some p=>exact absurd rfl (xy h i (List.mem_map.2 ⟨_,gvF_mem (j:=p.1) (l:=p.2) q,rfl⟩))
theorem ret_ok{P:Program}{N:Nat}{w0:World}{g0:Gh}{ars:List D}{vs:List Value}(hl:vs.length=ars.length)(hn:ars.length<=900)(hA:lenA ars=true)(hv:∀ (j:Nat) (d:D) (u:Value),ars[j]?=some d->vs[j]?=some u->RA g0 w0 j d u){rs:List ResultVar}{fn:Func}(hrs:fn.results=rs.toArray){Rs:D->List D->Prop}
  {x:Cx} (hx:x=⟨P,N,g0.S,fun b=>g0.up b≠none,w0,(entG g0 vs).β,(entG g0 vs).κ⟩) {g:Gh} {σ:St} {a:Act} {w:World} (hr:Rel x g σ a w) (h:retM P rs ars Rs σ) :
  a.defers=[]/\∃ v,(results fn a.tmps).run P w=.ok v w/\∃ v' g' r outs,Ending.returned v=.returned v'/\Below 0 w0 w/\(∀ b,b<w0.heap.size->g0.up b=none->w.heap[b]?=w0.heap[b]?)/\(∀ b,g0.S b->Gh.S g' b)/\(∀ b,b<w0.heap.size->g'.S b->g0.S b\/g0.up b≠none)/\(∀ b,g'.S b->b<w.heap.size) /\
   (∀ b p,g'.up b=some p->b<w.heap.size/\(b<w0.heap.size->g0.up b≠none)/\¬ g'.S b)/\Rs r outs/\RNs g' w r v'/\∀ (j:Nat) (d:D) (u:Value),outs[j]?=some d->vs[j]?=some u->RU g' w j d u:=by
 have hP:x.P=P:=by rw [hx]
 unfold retM at h
 split at h
 ·rename_i o1 σ1 f1
  split at h
  ·rename_i q0 ys0 a1
   split at h
   ·rename_i o2 σ2 f2
    split at h
    ·rename_i o3 ys a2
     split at h
     ·rename_i o4 zs t1
      obtain ⟨p1,p2,p3,p4,p5,p6⟩:=h;obtain ⟨g1,hr1⟩:=YW _ hr f1 p1;obtain ⟨g2,hr2⟩:=YW _ hr1 f2 p2;rw [<- hP] at a2
      obtain ⟨vs',w1,w2,w3⟩:=aRvs_ok hr2 _ _ _ a2 p3;rw [hP] at w1
      let gs:=gvY 0 ys
      let gr:Gh:=⟨g2.β,g2.κ,fun b=>(g2.up b).map (reP gs),g2.S⟩
      have mv:∀ {p:Option Pos} {c:D} {u:Value},Rep g2.S g2.up w p c u->Rep gr.S gr.up w (p.map (reP gs)) c u:=fun h=>by
       have m:Mv (fun _=>True) (reP gs) g2 gr w w:=⟨fun b hb=>⟨hb,rfl⟩,fun b p hb _=>⟨by show (g2.up b).map _=_;rw [hb];rfl,rfl⟩,fun b p o _ _=>⟨trivial,rfl⟩⟩
       exact Rep.move m h (fun _ _=>trivial)
      obtain ⟨l1,l2⟩:=treL_at _ _ _ t1 p4;have cell:∀ (m l:Nat) (y c d:D) (ob:Prop) (u:Value),ys[m]?=some y->(zr y)[l]?=some c->fdC σ2 c=some (ob,d)->ob->RC g2 w none c u->Rep gr.S gr.up w (some (.ans m l)) d u:=fun m l y c d ob u h1 h2 h3 h4 h5=>by
       rcases Yz hr2 h3 h4 h5 with ⟨q1,q2⟩|⟨i,q1,q2⟩
       ·exact (mv q2).any _
       ·have hm:=gvY_of ys 0 m y c l i h1 h2 q1
        rw [Nat.zero_add] at hm
        have:=mv q2;have hm':gvF gs i=some (m,l):=gvF_of p5 hm;simp only [Option.map_some,reP,hm'] at this
        exact this
      have hRN:∀ (m:Nat) (y z:D) (u:Value),ys[m]?=some y->zs[m]?=some z->vs'[m]?=some u->RN gr w m z u:=fun m y z u h1 h2 h3=>by
       obtain ⟨ob,q1,q2⟩:=l2 m y z h1 h2;have hu:=w3 m y u h1 h3;cases y with
       | ag xs=>
        simp only [treY] at q1
        split at q1
        ·rename_i ob' ds hf
         injection q1 with q1;injection q1 with e1 e2
         subst e1 e2;obtain ⟨us,rfl,u1,u2⟩:=hu;obtain ⟨k1,k2⟩:=Vn _ _ _ hf q2;refine ⟨us,rfl,by rw [u1,k1],fun l d z hd hz=>?_⟩
         have hlt:l<xs.length:=by rw [<- k1];exact (List.getElem?_eq_some_iff.1 hd).1
         have hc:xs[l]?=some xs[l]:=List.getElem?_eq_getElem hlt;obtain ⟨o5,k3,k4⟩:=k2 l _ d hc hd;exact cell m l _ _ d o5 z h1 hc k3 k4 (u2 l _ z hc hz)
        ·cases q1
       | un=>simp only [treY] at q1;injection q1 with q1;injection q1 with e1 e2;subst e2;trivial
       | tup _=>cases q1
       | mb _ _=>cases q1
       | _=>
        simp only [treY] at q1
        simp only [RE] at hu
        have:=cell m 0 _ _ z ob u h1 rfl q1 q2 hu;cases z<;>first|exact this|cases this
      have hres:∃ v,(results fn a.tmps).run P w=.ok v w/\RNs gr w (mkRes zs) v:=by
       rw [xcV,Array.mapM_eq_mapM_toList];have w1:(List.mapM (rvS a.tmps) fn.results.toList).run P w=.ok vs' w:=by rw [hrs];exact w1
       simp only [Sem.run_bind,Sem.run_map,w1,Result.andThen_ok,Sem.run_pure]
       match ys,zs,vs',l1,w2,hRN with
       | [],[],[],_,_,_=>exact ⟨_,rfl,[],rfl,rfl,fun m y u q=>by simp at q⟩
       | [y],[z],[v],_,_,hRN=>
        refine ⟨v,by simp,?_⟩
        have:=hRN 0 y z v rfl rfl rfl;cases z<;>first|exact this|(simp only [RN] at this;cases this)
       | y1::y2::ys,z1::z2::zs,v1::v2::vs',l1,w2,hRN=>
        refine ⟨.tuple (v1::v2::vs').toArray,by simp,v1::v2::vs',rfl,by simp at l1 w2 ⊢;omega,fun m z u hz hu=>?_⟩
        have hm:m<(y1::y2::ys).length:=by rw [<- l1];exact (List.getElem?_eq_some_iff.1 hz).1
        exact hRN m _ z u (List.getElem?_eq_getElem hm) hz hu
      obtain ⟨v,v1,v2⟩:=hres;have hbβ:x.β0=(entG g0 vs).β/\x.κ0=(entG g0 vs).κ:=by rw [hx];exact ⟨rfl,rfl⟩
      have hout:∀ (j l:Nat) (d c:D) (u:Value),ars[j]?=some d->vs[j]?=some u->yz d l=some c->l<100->outC σ2 (gvN gs) (pPar j l) c=.un\/Rep gr.S gr.up w (some (.par j l)) (outC σ2 (gvN gs) (pPar j l) c) (xH u l):=fun j l d c u hd hu hc hl'=>by
       obtain ⟨e1,e2,e3⟩:=UO (j:=j) (l:=l) (by have:=(List.getElem?_eq_some_iff.1 hd).1;omega) hl'
       have hRA:=RA_at (hv j d u hd hu) hc;have hβ:∀ o,σ2.b (pPar j l)=some o->g2.β (pPar j l)=blkV (xH u l)/\g2.κ (pPar j l)=capV (xH u l):=fun o ho=>by
        obtain ⟨q1,q2⟩:=hr2.par _ o ho e1;rw [q1,q2,hbβ.1,hbβ.2]
        constructor
        ·show (if _ then _ else _)=_
         rw [if_pos e1,e2,e3,ym hu]
        ·show (if _ then _ else _)=_
         rw [if_pos e1,e2,e3,ym hu]
       have hpos:pOut (gvN gs) (pPar j l)=true->reP gs (.root (pPar j l))=.par j l:=fun q=>by
        simp only [reP,gvF_none q,if_pos e1,e2,e3]
       cases c with
       | opa k0 row0=>
        simp only [outC];split
        ·rename_i hp
         split
         ·rename_i row hb
          split
          ·rename_i hdp
           right
           obtain ⟨b,cs,ty,b1,b2,b3,b4,b5⟩:=hr2.ob _ _ hb;have q:=(hβ _ hb).1;generalize xH u l=z at hRA q
           cases hRA with
           | @opa _ _ _ b' ty' cs' r1 r2 r3 r4=>
            rw [b1] at q
            injection q with q
            subst q;have:=mv (Rep.opa (S:=g2.S) (p:=.root (pPar j l)) (k:=k0) cs b2 b3 b4 fun j' d' hj=>(b5 j' d' hj).deep (List.all_eq_true.1 hdp d' (List.mem_of_getElem? hj)))
            rw [Option.map_some,hpos hp] at this
            exact this
          ·exact .inl rfl
         ·exact .inl rfl
        ·exact .inl rfl
       | osl e k rows=>
        simp only [outC];split
        ·rename_i hp
         split
         ·rename_i e' k' rows' hb
          split
          ·rename_i hlen
           right
           have hR:Rep g2.S g2.up w (some (.root (pPar j l))) (.osl e' k' rows') (.slice ((g2.β (pPar j l)).map fun b=>⟨b,0,none⟩) rows'.length (g2.κ (pPar j l))):=hr2.ob _ _ hb
           obtain ⟨q1,q2⟩:=hβ _ hb;have:=mv hR;rw [Option.map_some,hpos hp,q1,q2,hlen] at this
           generalize xH u l=z at hRA this
           cases hRA with
           | osl0=>exact this
           | osl cs' r1 r2 r3 r4 r5 r6 r7=>exact this
          ·exact .inl rfl
         ·exact .inl rfl
        ·exact .inl rfl
       | _=>exact .inl rfl
      refine ⟨hr.dfr,v,v1,v,gr,_,_,rfl,by have:=hr2.bel;rw [hx] at this;exact this,fun b h1 h2=>?_,fun b hs=>?_,fun b h1 h2=>?_,hr2.new,fun b p hp=>?_,p6,v2,fun j d u hd hu=>?_⟩
      ·have:=hr2.fr b (by rw [hx];exact h1) (by rw [hx];simpa using h2)
       rw [hx] at this;exact this
      ·exact hr2.s0 b (by rw [hx];exact hs)
      ·have:=hr2.old b (by rw [hx];exact h1) h2
       rw [hx] at this;exact this
      ·obtain ⟨p',hp',-⟩:=Option.map_eq_some_iff.1 (show (g2.up b).map _=some p from hp)
       obtain ⟨k1,k2,k3⟩:=hr2.own b p' hp';rw [hx] at k2
       exact ⟨k1,k2,k3⟩
      ·rw [xbA,Nat.zero_add] at hd
       obtain ⟨d0,k1,rfl⟩:=Option.map_eq_some_iff.1 hd;have one:∀ c,yz d0 0=some c->xH u 0=u->(outC σ2 (gvN gs) (pPar j 0) c=.un\/Rep gr.S gr.up w (some (.par j 0)) (outC σ2 (gvN gs) (pPar j 0) c) u):=fun c hc e=>by
        have:=hout j 0 d0 c u k1 hu hc (by omega)
        rwa [e] at this
       have hRA0:=hv j d0 u k1 hu;cases d0 with
       | ag xs=>
        simp only [outD];split
        ·obtain ⟨us,e,u1,u2⟩:=hRA0
         refine ⟨us,e,by rw [outL_len];exact u1,fun l c z hc hz=>?_⟩
         rw [outL_at,Nat.zero_add] at hc
         obtain ⟨c0,k2,rfl⟩:=Option.map_eq_some_iff.1 hc;have:=hout j l _ c0 u k1 hu k2 (by have:=VX ars hA j xs k1;have:=(List.getElem?_eq_some_iff.1 k2).1;omega)
         have hz':xH u l=z:=by rw [e];exact Xk hz
         rw [hz'] at this
         exact this
        ·trivial
       | opa k0 row0=>
        simp only [RA] at hRA0
        rcases one _ rfl (z3 hRA0.one 0) with q|q
        ·change RU gr w j (outC σ2 (gvN gs) (pPar j 0) (.opa k0 row0)) u;rw [q];trivial
        ·change RU gr w j (outC σ2 (gvN gs) (pPar j 0) (.opa k0 row0)) u
         generalize outC σ2 (gvN gs) (pPar j 0) (D.opa k0 row0)=z at q
         cases z<;>first|exact q|trivial|cases q
       | osl e k rows0=>
        simp only [RA] at hRA0
        rcases one _ rfl (z3 hRA0.one 0) with q|q
        ·change RU gr w j (outC σ2 (gvN gs) (pPar j 0) (.osl e k rows0)) u;rw [q];trivial
        ·change RU gr w j (outC σ2 (gvN gs) (pPar j 0) (.osl e k rows0)) u
         generalize outC σ2 (gvN gs) (pPar j 0) (D.osl e k rows0)=z at q
         cases z<;>first|exact q|trivial|cases q
       | _=>trivial
     ·exact h.elim
    ·exact h.elim
   ·exact h.elim
  ·exact h.elim
 ·exact h.elim
theorem FCon.intro (M:Md) {f:FuncId} (fn:Func) {c:Code} (hf:M.P.funcs[f]?=some fn) (hname:(fn.name == "runtime.NumGoroutine")=false) (hb:fn.body=some c) (N:Nat) (hN:fn.ntmps=N) {rs:List ResultVar} (hrs:fn.results=rs.toArray) (pl:List (Nat×Plan)) (hck:chkC pl N c=true) {ars:List D} {Rs:D->List D->Prop}
  (hlen:ars.length<=N) (hn:ars.length<=900) (hA:lenA ars=true) (ho:opnB ars=true) (h:AC M N pl c (retK M.P rs ars Rs) (opnS 0 ars (St.ent ars))):FCon M.P f ars Rs:=by
 refine ⟨fun vs w=>?_,fun w g vs h1 h2 hl hv=>calls_of_wp hf hb ?_⟩
 ·have hname':¬ fn.name = "runtime.NumGoroutine" := by simpa using hname
  have hbn:¬ fn.body=none:=by rw [hb];simp
  simp [callFunc,hf,hname',hbn]
 ·have hR:=Rel.entry (P:=M.P) (N:=N) h1 h2 hl hv hA hn hlen
  obtain ⟨g',hR'⟩:=opn_ok ars 0 _ _ hR ho (by omega) (fun q k row hq=>by
   have hq':=(List.getElem?_eq_some_iff.1 hq).1;obtain ⟨e1,e2,e3⟩:=UO (j:=q) (l:=0) (by omega) (by omega)
   rw [Nat.zero_add];show entO ars _=_;unfold entO;rw [if_pos e1,e2,e3,hq];rfl)
  rw [<- hN] at hR'
  refine h hck _ g' _ w _ rfl hN hR' ?_;intro e σ' g'' a' w' hr' hK;cases e with
  | normal=>exact ret_ok hl hn hA hv hrs rfl hr' hK
  | ret=>exact ret_ok hl hn hA hv hrs rfl hr' hK
  | exit id=>exact hK.elim
  | goto l=>exact hK.elim
  | panic c=>exact hK.elim
  | outgrown=>exact hK.elim
section
variable {M:Md} {N:Nat} {pl:List (Nat×Plan)} {K K':Exit->St->Prop} {F:St->Prop} {σ:St} {ops:Array Oper}
theorem sp_skip:stp M N pl .skip K σ=K .normal σ:=rfl
theorem sp_exit{id:Nat}:stp M N pl (.exit id) K σ=K (.exit id) σ:=rfl
theorem sp_ret:stp M N pl .ret K σ=K .ret σ:=rfl
theorem sp_seq{c d:Code}:stp M N pl (.seq c d) K σ=stp M N pl c (Zl (AC M N pl d K) K) σ:=rfl
theorem sp_block{id:Nat}{c:Code}:stp M N pl (.block id c) K σ=stp M N pl c (Yu id K) σ:=rfl
theorem sp_cond{z:Operand}{c d:Code}:stp M N pl (.cond z c d) K σ=condV (ev σ z) (AC M N pl c K σ) (AC M N pl d K σ):=rfl
theorem sp_reg{id:Nat}{l:List Oper}:stp M N pl (.region id l.toArray false) K σ=aops (M.at id) l.toArray (K .normal) l σ:=rfl
def drwV(M:Md)(ops:Array Oper)(K:St->Prop)(σ:St):Option Plan->Prop
 | some (m,fx,fl,π)=>aqsN M ops (flF fl) (aops M ops K (ops.toList.drop m)) π [] σ
 | none=>False
theorem sp_drw{id:Nat}{l:List Oper}:stp M N pl (.region id l.toArray true) K σ=drwV (M.at id) l.toArray (K .normal) σ (plF pl id):=by
 show (match plF pl id with|some (m,fx,fl,π)=>_|none=>False)=_
 cases plF pl id<;>rfl
theorem sp_loop{c:Code}:stp M N pl (.loop c) K σ=ACL M N pl c K σ:=rfl
theorem k_tn:Zl F K .normal σ=F σ:=rfl
theorem k_te{i:Nat}:Zl F K (.exit i) σ=K (.exit i) σ:=rfl
theorem k_tr:Zl F K .ret σ=K .ret σ:=rfl
theorem k_bn{i:Nat}:Yu i K .normal σ=K .normal σ:=rfl
theorem k_br{i:Nat}:Yu i K .ret σ=K .ret σ:=rfl
theorem k_be{i j:Nat}:Yu i K (.exit j) σ=if j=i then K .normal σ else K (.exit j) σ:=rfl
theorem k_rn{P:Program}{rs:List ResultVar}{ars:List D}{Rs:D->List D->Prop}:retK P rs ars Rs .normal σ=retM P rs ars Rs σ:=rfl
theorem k_rr{P:Program}{rs:List ResultVar}{ars:List D}{Rs:D->List D->Prop}:retK P rs ars Rs .ret σ=retM P rs ars Rs σ:=rfl
theorem ao_nil:aops M ops F [] σ=F σ:=rfl
theorem ao_cons{o:Oper}{l:List Oper}:aops M ops F (o::l) σ=astep M ops o σ (aops M ops F l):=rfl
theorem ent_t(ars:List D)(i:Nat):(St.ent ars).t i=match ars[i]? with
 | some d=>entD i d
 | none=>.un:=rfl
theorem ent_b(ars:List D):(St.ent ars).b=entO ars:=rfl
theorem put_t(d:Nat)(y:D)(i:Nat):(σ.put (some d) y).t i=if i=d then y else σ.t i:=rfl
theorem put_b(d:Nat)(y:D):(σ.put (some d) y).b=σ.b:=rfl
theorem put_n(y:D):σ.put none y=σ:=rfl
theorem sc_t(q r:Nat->Bool)(i:Nat):(σ.sc q r).t i=scT q (σ.t i):=rfl
theorem sc_b(q r:Nat->Bool)(i:Nat):(σ.sc q r).b i=if r i=true then (σ.b i).map (scO q) else none:=rfl
theorem setB_t(d:Nat)(o:Ob)(i:Nat):(σ.setB d o).t i=σ.t i:=rfl
theorem setB_b(d:Nat)(o:Ob)(i:Nat):(σ.setB d o).b i=if i=d then some o else σ.b i:=rfl
theorem fr_t(d:Nat)(o:Ob)(i:Nat):(σ.fr d o).t i=frT d o (σ.t i):=rfl
theorem fr_b(d:Nat)(o:Ob)(i:Nat):(σ.fr d o).b i=if i=d then none else (σ.b i).map (frO d o):=rfl
theorem unf_t(id:Nat)(row:List D)(i:Nat):(σ.unfB id row).t i=scT (pUn id row) (σ.t i):=rfl
theorem unf_b(id:Nat)(row:List D)(i:Nat):(σ.unfB id row).b i=if i=id then some (.box (unfL id 0 row)) else match unfO id row i with
  | some o=>some o
  | none=>(σ.b i).map (scO (pUn id row)):=rfl
theorem cal_t(d:Nat)(gs:List Gv)(r:D)(outs:List D)(i:Nat):(σ.cal d gs r outs).t i=scT (qCal d gs outs) (σ.t i):=rfl
theorem cal_b(d:Nat)(gs:List Gv)(r:D)(outs:List D)(i:Nat):(σ.cal d gs r outs).b i=match ansO d r i with
  | some o=>some o
  | none=>match outO outs gs i with
   | some o=>if ansB d i=true then none else some o
   | none=>if ansB d i=true\/inG gs i=true then none else (σ.b i).map (scO (qCal d gs outs)):=rfl
theorem op_t(id e k:Nat)(rows:List (List D))(i c nm:Nat)(d:D)(o:Ob)(j:Nat):(σ.opE id e k rows i c nm d o).t j=scT (pOut [nm]) (σ.t j):=rfl
theorem op_b(id e k:Nat)(rows:List (List D))(i c nm:Nat)(d:D)(o:Ob)(j:Nat):(σ.opE id e k rows i c nm d o).b j=if j=nm then some o else if j=id then some (.hol e k rows i c (refC nm d)) else if pOut [nm,id] j=true then (σ.b j).map (scO (pOut [nm])) else none:=rfl
theorem ev_t(i:Nat):ev σ (.tmp i)=σ.t i:=rfl
theorem ev_i(k:IntKind)(n:Int):ev σ (.const (.int k n))=.s (.int k n):=rfl
theorem ev_b(b:Bool):ev σ (.const (.bool b))=.s (.bool b):=rfl
theorem ev_s(s:ByteArray):ev σ (.const (.string s))=.s (.string s):=rfl
theorem ev_nil:ev σ (.const (.slice none 0 0))=.nil:=rfl
theorem ev_np:ev σ (.const (.pointer none))=.np:=rfl
theorem ev_f(f:FuncId):ev σ (.func f)=.fn f []:=rfl
end
theorem bnil(s:ByteArray):(s.toList==ByteArray.toList ⟨#[]⟩)=s.toList.isEmpty:=by
 have:ByteArray.toList ⟨#[]⟩=[]:=by kernel_rfl
 rw [this];cases s.toList<;>rfl
theorem xh{P:Program}{f:FuncId}{ars:List D}{bs:List Nat}{K:D->List D->Prop}{Rs:D->List D->Prop}(hF:FCon P f ars Rs)(h:∀ r outs,Rs r outs->(bs=[]\/(Pure r/\∀ o∈outs,Pure o))/\K r outs):Wd P f ars bs K:=⟨Rs,hF,h⟩
theorem CallE_mk{P:Program}{f:FuncId}{ars:List D}{bs:List Nat}{K:D->List D->Prop}{r0:D}{o0:List D}(hF:FCon P f ars (fun r o=>r=r0/\o=o0))(h:(bs=[]\/(Pure r0/\∀ o∈o0,Pure o))/\K r0 o0):CallE P f ars bs K:=⟨r0,o0,hF,h.1,h.2⟩
def CallQ(P:Program)(f:FuncId)(ars:List D)(bs:List Nat)(c:Bool)(wr:D->D)(σ:St)(dst:Option Tmp)(K:St->Prop):Prop:=∃ r0,(c=true->FCon P f ars (fun r _=>r=r0)/\(bs=[]\/Pure r0))/\K (σ.put dst (wr (frA r0)))
def callQA(P:Program)(σ:St)(dst:Option Tmp)(c:Bool)(wr:D->D)(K:St->Prop)(ob:Prop)(f:FuncId)(caps:List D):Option (Prop×List D×List Gv×List Nat)->Prop
 | some (o2,ars,gs,bs)=>dst.isSome=true/\gs=[]/\(c=true->ob/\o2)/\CallQ P f (ars++caps) bs c wr σ dst K
 | none=>c=false/\K (σ.put dst (wr .un))
def callQM(P:Program)(σ:St)(dst:Option Tmp)(c:Bool)(wr:D->D)(K:St->Prop):Option (Prop×FuncId×List D×List Operand)->Prop
 | some (ob,f,caps,ops)=>callQA P σ dst c wr K ob f caps (wU σ [] 0 ops)
 | none=>c=false/\K (σ.put dst (wr .un))
theorem Zr{P:Program}{σ:St}{o:Oper}{c:Bool}{wr:D->D}{K:St->Prop}(h:callQM P σ o.dst c wr K (aFn σ o.op)):Zq P σ o c wr K:=by
 unfold callQM at h
 split at h
 ·rename_i ob f caps ops hc
  unfold callQA at h
  split at h
  ·rename_i o2 ars gs bs ha
   obtain ⟨hd,rfl,ho,r0,hF,hK⟩:=h;obtain ⟨d,hd⟩:=Option.isSome_iff_exists.1 hd;exact ⟨frA r0,fun q=>⟨d,ob,f,caps,ops,o2,ars,bs,r0,hd,hc,(ho q).1,ha,(ho q).2,(hF q).1,(hF q).2,rfl⟩,hK⟩
  ·exact ⟨_,fun q=>(by rw [h.1] at q;cases q),h.2⟩
 ·exact ⟨_,fun q=>(by rw [h.1] at q;cases q),h.2⟩
theorem Zs{P:Program}{σ:St}{o:Oper}{wr:D->D}{K:St->Prop}(y:D)(h:K (σ.put o.dst (wr y))):Zq P σ o false wr K:=⟨y,fun q=>(by cases q),h⟩
theorem CallQ_no{P:Program}{f:FuncId}{ars:List D}{bs:List Nat}{wr:D->D}{σ:St}{dst:Option Tmp}{K:St->Prop}(h:K (σ.put dst (wr .un))):CallQ P f ars bs false wr σ dst K:=⟨.un,fun q=>(by cases q),h⟩
theorem xe{P:Program}{f:FuncId}{ars:List D}{bs:List Nat}{c:Bool}{wr:D->D}{σ:St}{dst:Option Tmp}{K:St->Prop}{r:D}(hF:FCon P f ars (fun r' _=>r'=r))(h:(c=true->bs=[]\/Pure r)/\K (σ.put dst (wr (frA r)))):CallQ P f ars bs c wr σ dst K:=⟨r,fun hc=>⟨hF,h.1 hc⟩,h.2⟩
theorem xb{α:Type}(enc:α->List D)(xs:List α)(k:Nat)(h:k<xs.length):(xs.map enc).getD k []=enc xs[k]:=by
 rw [List.getD_eq_getElem?_getD,List.getElem?_map,List.getElem?_eq_getElem h];rfl
theorem pure_s(v:Value):Pure (.s v)=True:=eq_true (.s v)
theorem pure_un:Pure .un=True:=eq_true .un
attribute [go_sem] sp_skip sp_exit sp_ret sp_seq sp_block sp_cond sp_reg sp_drw sp_loop drwV k_tn k_te k_tr k_bn k_br k_be k_rn k_rr ao_nil ao_cons ent_t ent_b put_t put_b put_n sc_t sc_b setB_t setB_b fr_t fr_b unf_t unf_b cal_t cal_b op_t op_b ev_t ev_i ev_b ev_s ev_nil ev_np ev_f pure_s pure_un aqsN_nil aqsN_no aqsN_fl aqsN_fx aqsN_fx1 altK_ap lin_nil lin_cons aPivN aEff aFlQ aqst flF plF condV astep gvCall aopP aop1 aop2 aop3 aopF aopB Wc ACallE aFn aft callQM callQA lift2 aBin aBinI aBinS aUn Xa Y2 ldC v8 U1 v9 U2 U3 uW aLen aConv aNil aPick Ua rowsE intE vS zr vF uS XR lay XQ srcK nmA fdC fdL idC idO idsC nodB pOut isP foldB YV yS vM wu reop argC argL argD wU gvL bsL fdB idB wt deepO frz frzL frC frE frT frO scC scE scT scO unfL unfC unfD unfO pUn nmU refC entL entD entO yz Xf ansO ansB ansN outO inG qCal shC shL shE shM shA lenE lenT frA retM aRvs aRv mkRes boxP boxC cellsY gvY gvN gvK treY treL outC outL outD Y6 ownB opnS opnB lenA pPar grd gvT Wl gdT xz oblT oblO kmin kmax eqCs List.getElem?_toArray List.getElem?_cons_zero List.getElem?_cons_succ List.drop_zero List.drop_succ_cons List.take_zero List.take_succ_cons List.take_nil List.drop_nil List.map_cons List.map_nil List.append_nil List.nil_append List.cons_append List.length_cons List.length_nil List.length_map List.length_append List.all_cons List.all_nil List.any_cons List.any_nil List.filter_cons List.filter_nil List.contains_cons List.contains_nil List.getD_cons_zero List.getD_cons_succ List.getD_nil List.set_cons_zero List.set_cons_succ Nat.zero_add Nat.add_zero Option.map_some Option.map_none Option.bind_some Option.bind_none Option.isNone_some Option.isNone_none Option.isSome_some Option.isSome_none Option.getD_some Option.getD_none if_true if_false Bool.false_eq_true true_and and_true and_self false_and and_false true_implies implies_true List.toList_toArray Option.some.injEq Int.toNat_natCast bnil beq_true beq_false imp_self beq_self_eq_true bne_self_eq_false Bool.cond_true_left Bool.cond_true_right Bool.cond_false_left Bool.cond_false_right Bool.true_and Bool.and_true Bool.false_and Bool.and_false Bool.true_or Bool.or_true Bool.false_or Bool.or_false Bool.not_true Bool.not_false forall_const id_eq or_true true_or or_false false_or not_true_eq_false not_false_eq_true decide_true decide_false
theorem Und.up_some{up:Nat->Option Pos}{R:Nat->Prop}{b:Nat}(h:Und up R b):up b≠none:=by
 cases h with
 | root h _=>rw [h];simp
 | cell h _=>rw [h];simp
theorem Rep.rn{g:Gh}{w:World}{m:Nat}{d:D}{v:Value}(h:Rep g.S g.up w none d v):RN g w m d v:=by
 cases d with
 | un=>trivial
 | ag _=>cases h
 | _=>exact h.any _
open Classical in
theorem FCon.frz{P:Program}{f:FuncId}{args:List D}{Rs:D->List D->Prop}(h:FCon P f args Rs):FCon P f args (fun r o=>∃ r0,Rs r0 o/\r=frA r0):=by
 refine ⟨h.ent,fun w g vs h1 h2 h3 h4=>(h.run w g vs h1 h2 h3 h4).mono ?_⟩
 rintro e w' ⟨v,g',r,o,a1,a2,a3,a4,a5,a6,a7,a8,a9,a10⟩
 let π:Pos->Pos:=fun p=>match p with
  | .cell b o=>.cell b o
  | .ans _ _=>.root 0
  | _=>.root 1
 let up1:Nat->Option Pos:=fun b=>(g'.up b).map π
 let Rb:Nat->Prop:=fun i=>i=0
 let ga:Gh:=⟨g'.β,g'.κ,fun b=>if Und up1 Rb b then none else g'.up b,fun b=>g'.S b\/Und up1 Rb b⟩
 have hund:∀ b,Und up1 Rb b->g'.up b≠none:=fun b q e=>q.up_some (by show (g'.up b).map π=none;rw [e];rfl)
 let Ok:Pos->Prop:=fun p=>match p with
  | .cell b _=>¬ Und up1 Rb b
  | .ans _ _=>False
  | _=>True
 have hok:∀ b p,g'.up b=some p->Ok p->¬ Und up1 Rb b:=by
  intro b p hp ho hu;cases hu with
  | root q r=>
   have q:(g'.up b).map π=some (.root _):=q;rw [hp,Option.map_some] at q
   injection q with q
   cases p with
   | cell b' o'=>cases q
   | ans _ _=>exact ho
   | root _=>injection q with q;subst q;cases r
   | par _ _=>injection q with q;subst q;cases r
  | cell q r=>
   have q:(g'.up b).map π=some (.cell _ _):=q;rw [hp,Option.map_some] at q
   injection q with q
   cases p with
   | cell b' o'=>injection q with q1 q2;subst q1;exact ho r
   | ans _ _=>cases q
   | root _=>cases q
   | par _ _=>cases q
 have mv:Mv Ok (fun p=>p) g' ga w' w':=⟨fun b hb=>⟨.inl hb,rfl⟩,fun b p hb ho=>⟨by show (if Und up1 Rb b then none else g'.up b)=_;rw [if_neg (hok b p hb ho)];exact hb,rfl⟩,fun b p o hb ho=>⟨hok b p hb ho,rfl⟩⟩
 have key:∀ (m l:Nat) (c:D) (u:Value),Rep g'.S g'.up w' (some (.ans m l)) c u->Rep ga.S ga.up w' none (Go.Proofs.YtmnokalddmlogaaGreat.frz c) u:=by
  intro m l c u hr;have h1:Rep g'.S up1 w' ((some (.ans m l)).map π) c u:=Rep.move (Ok:=fun _=>True) (π:=π) (g:=g') (g':=⟨g'.β,g'.κ,up1,g'.S⟩) ⟨fun b hb=>⟨hb,rfl⟩,fun b p hb _=>⟨by show (g'.up b).map π=_;rw [hb];rfl,rfl⟩,fun b p o hb _=>⟨trivial,rfl⟩⟩ hr (fun _ _=>trivial)
  exact h1.froz (S':=ga.S) (up':=ga.up) (R:=Rb) (fun b hs=>.inl hs) (fun b hu=>.inr hu) (fun q hq=>by
   have hq:some (Pos.root 0)=some q:=hq;injection hq with hq;subst hq;rfl)
 have cellE:∀ (m:Nat) (y:D) (u:Value),RN g' w' m y u->RN ga w' m (match y with|.ag ys=>.ag (frzL ys)|y=>Go.Proofs.YtmnokalddmlogaaGreat.frz y) u:=by
  intro m y u hN;cases y with
  | un=>trivial
  | ag xs=>
   obtain ⟨us,rfl,n1,n2⟩:=hN;refine ⟨us,rfl,by rw [Ux];exact n1,fun l c z hc hz=>?_⟩
   rw [wH,List.getElem?_map] at hc
   obtain ⟨c0,q1,rfl⟩:=Option.map_eq_some_iff.1 hc;exact (key _ _ _ _ (n2 l c0 z q1 hz)).any _
  | tup _=>simp only [RN] at hN;cases hN
  | mb _ _=>simp only [RN] at hN;cases hN
  | bx _ _=>simp only [RN] at hN;cases hN
  | el _ _ _ _=>simp only [RN] at hN;cases hN
  | bs _ _ _=>simp only [RN] at hN;cases hN
  | _=>simp only [RN] at hN;exact (key _ _ _ _ hN).rn
 refine ⟨v,ga,frA r,o,a1,a2,a3,fun b hb=>.inl (a4 b hb),fun b hb hs=>?_,fun b hs=>?_,fun b p hp=>?_,⟨r,a8,rfl⟩,?_,fun j d u hd hu=>?_⟩
 ·rcases hs with hs|hs
  ·exact a5 b hb hs
  ·cases hq:g'.up b with
   | none=>exact absurd hq (hund b hs)
   | some p=>exact .inr ((a7 b p hq).2.1 hb)
 ·rcases hs with hs|hs
  ·exact a6 b hs
  ·cases hq:g'.up b with
   | none=>exact absurd hq (hund b hs)
   | some p=>exact (a7 b p hq).1
 ·have hp:(if Und up1 Rb b then none else g'.up b)=some p:=hp
  split at hp
  ·cases hp
  ·rename_i hn
   obtain ⟨c1,c2,c3⟩:=a7 b p hp;exact ⟨c1,c2,fun q=>q.elim c3 hn⟩
 ·cases r with
  | tup xs=>
   obtain ⟨us,rfl,n1,n2⟩:=a9;refine ⟨us,rfl,by simp [n1],fun m y u hy hu=>?_⟩
   rw [List.getElem?_map] at hy
   obtain ⟨y0,q1,rfl⟩:=Option.map_eq_some_iff.1 hy;exact cellE m y0 u (n2 m y0 u q1 hu)
  | un=>trivial
  | ag xs=>exact cellE 0 (.ag xs) v a9
  | mb _ _=>simp only [RNs,RN] at a9;cases a9
  | bx _ _=>simp only [RNs,RN] at a9;cases a9
  | el _ _ _ _=>simp only [RNs,RN] at a9;cases a9
  | bs _ _ _=>simp only [RNs,RN] at a9;cases a9
  | _=>simp only [RNs] at a9;exact cellE 0 _ v a9
 ·have hR:=a10 j d u hd hu
  cases d with
  | un=>trivial
  | ag xs=>
   obtain ⟨us,rfl,n1,n2⟩:=hR;refine ⟨us,rfl,n1,fun l x z hx hz=>(n2 l x z hx hz).imp id fun q=>?_⟩
   exact Rep.move mv q (fun p hp=>by injection hp with hp;subst hp;trivial)
  | _=>exact Rep.move mv (show Rep g'.S g'.up w' (some (.par j 0)) _ u from hR) (fun p hp=>by injection hp with hp;subst hp;trivial)
theorem FCon.ice{P:Program}{f:FuncId}{args:List D}{y:D}(h:FCon P f args (fun r _=>frA r=y)):FCon P f args (fun r _=>r=y):=h.frz.mono fun _ _ ⟨_,e,q⟩=>q.trans e
theorem FCon.noout{P:Program}{f:FuncId}{args:List D}{R:D->Prop}(h:FCon P f args (fun r _=>R r)):FCon P f args (fun r o=>R r/\o=[]):=by
 refine ⟨h.ent,fun w g vs h1 h2 h3 h4=>(h.run w g vs h1 h2 h3 h4).mono ?_⟩
 rintro e w' ⟨v,g',r,o,a1,a2,a3,a4,a5,a6,a7,a8,a9,a10⟩
 exact ⟨v,g',r,[],a1,a2,a3,a4,a5,a6,a7,⟨a8,rfl⟩,a9,fun j d u q=>by simp at q⟩
theorem xP{α:Type}{f:α->List D}(h:∀ x,∀ d∈f x,Pure d)(e k:Nat)(xs:List α):Pure (.osl e k (xs.map f)):=.osl fun i j row d hi hj=>by
 rw [List.getElem?_map] at hi
 obtain ⟨y,-,rfl⟩:=Option.map_eq_some_iff.1 hi;exact h y d (List.mem_of_getElem? hj)
theorem UU(xs:List D):Pure (.ag xs)=∀ d∈xs,Pure d:=propext ⟨fun h d hd=>by
 obtain ⟨j,hj⟩:=List.mem_iff_getElem?.1 hd;cases h with
 | ag h=>exact h j d hj,fun h=>.ag fun j d hj=>h d (List.mem_of_getElem? hj)⟩
attribute [go_sem] UU List.forall_mem_cons List.not_mem_nil false_imp_iff
theorem FCon.wk{P:Program}{f:FuncId}{args:List D}{Rs Rs':D->List D->Prop}(h:FCon P f args Rs)(hr:∀ r o,Rs r o->∃ r',Rs' r' o/\∀ (g:Gh) (w:World) (v:Value),RNs g w r v->RNs g w r' v):FCon P f args Rs':=by
 refine ⟨h.ent,fun w g vs h1 h2 h3 h4=>(h.run w g vs h1 h2 h3 h4).mono ?_⟩
 rintro e w' ⟨v,g',r,o,a1,a2,a3,a4,a5,a6,a7,a8,a9,a10⟩
 obtain ⟨r',b1,b2⟩:=hr r o a8;exact ⟨v,g',r',o,a1,a2,a3,a4,a5,a6,a7,b1,b2 _ _ _ a9,a10⟩
theorem Rep.nil_osl{S:Nat->Prop}{up:Nat->Option Pos}{w:World}{p:Option Pos}{v:Value}(e k:Nat)(h:Rep S up w p .nil v):Rep S up w p (.osl e k []) v:=by cases h;exact .osl0
theorem Rep.nil_sl{S:Nat->Prop}{up:Nat->Option Pos}{w:World}{p:Option Pos}{v:Value}(k:Nat)(h:Rep S up w p .nil v):Rep S up w p (.sl k []) v:=by cases h;exact .sl0 (Nat.zero_le _)
theorem xbM(q r:Nat->Bool)(y:D):scC q (scC r y)=scC r (scC q y):=by
 cases y with
 | bx id o=>by_cases h1:q id=true<;>by_cases h2:r id=true<;>simp [scC,h1,h2]
 | el id k i o=>by_cases h1:q id=true<;>by_cases h2:r id=true<;>simp [scC,h1,h2]
 | bs id k n=>by_cases h1:q id=true<;>by_cases h2:r id=true<;>simp [scC,h1,h2]
 | _=>rfl
theorem xal(q r:Nat->Bool)(l:List D):(l.map (scC r)).map (scC q)=(l.map (scC q)).map (scC r):=by
 rw [List.map_map,List.map_map];exact List.map_congr_left fun y _=>xbM q r y
theorem UY(q r:Nat->Bool)(y:D):scE q (scE r y)=scE r (scE q y):=by
 cases y with
 | ag xs=>simp only [scE,xal q r]
 | bx id o=>by_cases h1:q id=true<;>by_cases h2:r id=true<;>simp [scE,scC,h1,h2]
 | el id k i o=>by_cases h1:q id=true<;>by_cases h2:r id=true<;>simp [scE,scC,h1,h2]
 | bs id k n=>by_cases h1:q id=true<;>by_cases h2:r id=true<;>simp [scE,scC,h1,h2]
 | _=>rfl
theorem Zj(q r:Nat->Bool)(y:D):scT q (scT r y)=scT r (scT q y):=by
 cases y with
 | tup xs=>simp only [scT,List.map_map];congr 1;exact List.map_congr_left fun y _=>UY q r y
 | mb c x=>simp only [scT,UY q r]
 | ag xs=>exact UY q r (.ag xs)
 | bx id o=>by_cases h1:q id=true<;>by_cases h2:r id=true<;>simp [scT,scE,scC,h1,h2]
 | el id k i o=>by_cases h1:q id=true<;>by_cases h2:r id=true<;>simp [scT,scE,scC,h1,h2]
 | bs id k n=>by_cases h1:q id=true<;>by_cases h2:r id=true<;>simp [scT,scE,scC,h1,h2]
 | _=>rfl
theorem Zi(q r:Nat->Bool)(o:Ob):scO q (scO r o)=scO r (scO q o):=by
 cases o<;>simp only [scO,xal q r,xbM q r]
theorem mk2{ρ:St}{d e:Nat}{o p:Ob}{x y:D}(h:d≠e)(ho:scO (fun i=>i != e) o=o)(hp:scO (fun i=>i != d) p=p)(hx:scT (fun i=>i != e) x=x)(hy:scT (fun i=>i != d) y=y) :
  ((((((ρ.sc (fun i=>i != e) (fun i=>i != e)).setB e p).put (some e) y).sc (fun i=>i != d) (fun i=>i != d)).setB d o).put (some d) x)=((((((ρ.sc (fun i=>i != d) (fun i=>i != d)).setB d o).put (some d) x).sc (fun i=>i != e) (fun i=>i != e)).setB e p).put (some e) y):=by
 simp only [St.put,St.setB,St.sc]
 congr 1
 ·funext i
  by_cases h1:i=d
  ·subst h1;rw [if_pos rfl,if_neg h,if_pos rfl,hx]
  ·rw [if_neg h1]
   by_cases h2:i=e
   ·subst h2;rw [if_pos rfl,if_pos rfl,hy]
   ·rw [if_neg h2,if_neg h2,if_neg h1];exact Zj _ _ _
 ·funext i
  by_cases h1:i=d
  ·subst h1
   have h3:(i != e)=true:=by simpa using h
   rw [if_pos rfl,if_neg h,if_pos h3,if_pos rfl,Option.map_some,ho]
  ·rw [if_neg h1]
   by_cases h2:i=e
   ·subst h2
    have h3:(i != d)=true:=by simpa using h1
    rw [if_pos h3,if_pos rfl,if_pos rfl,Option.map_some,hp]
   ·have h3:(i != d)=true:=by simpa using h1
    have h4:(i != e)=true:=by simpa using h2
    rw [if_pos h3,if_neg h2,if_neg h2,if_pos h4,if_pos h4,if_neg h1,if_pos h3,Option.map_map,Option.map_map];cases ρ.b i with
    | none=>rfl
    | some q=>exact congrArg some (Zi _ _ q)
theorem q_Meet{σ τ:St}(h:Meet σ τ):Meet σ τ:=h
theorem zM{σ τ:St}(h:σ=τ:=by first|rfl|(rw [mk2 (by decide) rfl rfl rfl rfl];done)|fail):Meet σ τ:=h
structure WFx(p:Prop):Prop where
 out:p
theorem q_aqsN{M:Md}{ops:Array Oper}{fl:Nat->Nat->Bool}{K:St->Prop}{t:Tr}{acc:List (Nat×Oper)}{σ:St}(h:aqsN M ops fl K t acc σ):aqsN M ops fl K t acc σ:=h
theorem q_aops{M:Md}{ops:Array Oper}{K:St->Prop}{l:List Oper}{σ:St}(h:aops M ops K l σ):aops M ops K l σ:=h
theorem q_aft{σ:St}{dst:Option Tmp}{gs:List Gv}{K:St->Prop}{r:D}{outs:List D}(h:aft σ dst gs K r outs):aft σ dst gs K r outs:=h
theorem xc{P:Program}{f:FuncId}{ars:List D}{bs:List Nat}{K:D->List D->Prop}(h:Wd P f ars bs K):Wd P f ars bs K:=h
theorem q_CallE{P:Program}{f:FuncId}{ars:List D}{bs:List Nat}{K:D->List D->Prop}(h:CallE P f ars bs K):CallE P f ars bs K:=h
theorem xf{P:Program}{f:FuncId}{ars:List D}{bs:List Nat}{c:Bool}{wr:D->D}{σ:St}{dst:Option Tmp}{K:St->Prop}(h:CallQ P f ars bs c wr σ dst K):CallQ P f ars bs c wr σ dst K:=h
theorem ai{a b:Prop}(x:a)(y:b):a/\b:=⟨x,y⟩
theorem f0:WFx (∀ n:Nat,n+0=n):=⟨fun _=>rfl⟩
theorem zS{G R:Prop}(r:R)(h:R->G:=by
 intro r
 with_reducible first|apply q_aqsN|apply q_aops|apply Zs (.s (.bool false))|apply xj|apply Zr|apply q_aft
 simp only [go_sem,simprocAttr,hWf.out]
 fail_if_success (with_reducible refine (?_:False))
 exact r):G:=h r
theorem zE{G:Prop}(h:G:=by
 with_reducible first|apply q_aqsN|apply q_aops|apply Zs (.s (.bool false))|apply xj|apply Zr|apply q_aft
 simp only [go_sem,simprocAttr,hWf.out]
 done):G:=h
theorem zY{G R:Prop}(r:R)(h:R->G:=by
 intro r
 with_reducible first|apply q_aqsN|apply q_aops|apply Zs (.s (.bool false))|apply Zr|apply q_aft
 simp only [go_sem,simprocAttr,hWf.out]
 fail_if_success (with_reducible refine (?_:False))
 exact r):G:=h r
theorem zT{G R:Prop}(r:R)(h:R->G:=by
 intro r
 first
 | ((with_reducible apply CallQ_no);exact r)
 | (simp only [go_sem,simprocAttr,hWf.out];exact r)
 | fail):G:=h r
theorem zB0{c:Prop}{M:Md}{N:Nat}{pl:List (Nat×Plan)}{cd:Code}{K:Exit->St->Prop}{σ:St}(h:c->False:=by
 intro hb
 (try simp only [decide_eq_true_eq,decide_eq_false_iff_not,Bool.and_eq_true,Bool.or_eq_true,Bool.and_eq_false_iff,Bool.or_eq_false_iff,Bool.not_eq_true',Bool.not_eq_false',beq_iff_eq,beq_eq_false_iff_ne,bne_iff_ne,bne_eq_false_iff_eq,gt_iff_lt,ge_iff_le,Int.not_lt,Int.not_le] at hb)<;>omega):c->AC M N pl cd K σ:=fun q=>(h q).elim
theorem zB{c d:Prop}{M:Md}{N:Nat}{pl:List (Nat×Plan)}{cd:Code}{K:Exit->St->Prop}{σ:St}(k:d->AC M N pl cd K σ)(h:c->d:=by
 intro hb
 (try simp only [decide_eq_true_eq,decide_eq_false_iff_not,Bool.and_eq_true,Bool.or_eq_true,Bool.and_eq_false_iff,Bool.or_eq_false_iff,Bool.not_eq_true',Bool.not_eq_false',beq_iff_eq,beq_eq_false_iff_ne,bne_iff_ne,bne_eq_false_iff_eq,gt_iff_lt,ge_iff_le,Int.not_lt,Int.not_le] at hb)
 exact hb):c->AC M N pl cd K σ:=fun q=>k (h q)
theorem zC{G:Prop}(h:G:=by
 first
 | ((with_reducible intro hff);exact False.elim hff)
 | omega
 | (simp only [go_sem,simprocAttr,hWf.out];done)
 | (intro hg;simp only [Bool.and_eq_true,Bool.or_eq_true,Bool.not_eq_true',Bool.and_eq_false_iff,Bool.or_eq_false_iff,Bool.not_eq_false',decide_eq_true_eq,decide_eq_false_iff_not,Bool.not_not,gt_iff_lt,ge_iff_le,Int.not_lt,Int.not_le] at hg ⊢;first|omega|(simp_all;done)|fail)
 | fail):G:=h
theorem zG{P:Program}{f:FuncId}{ars:List D}{bs:List Nat}{K:D->List D->Prop}{X:D}(hF:FCon P f ars (fun r _=>r=X))(h:(bs=[]\/(Pure X/\∀ o∈([]:List D),Pure o))/\K X []):Wd P f ars bs K:=
 xh (FCon.noout (R:=fun r=>r=X) hF) (by rintro _ _ ⟨rfl,rfl⟩;exact h)
theorem zK{F G R:Prop}(c:F)(r:R)(h:F->R->G:=by
 intro c r
 first
 | ((with_reducible apply xc);exact zG c r)
 | ((with_reducible apply xf);exact xe c r)
 | fail):G:=h c r
theorem zG2{P:Program}{f:FuncId}{ars:List D}{bs:List Nat}{K:D->List D->Prop}{X:D}{Y:List D}(hF:FCon P f ars (fun r o=>r=X/\o=Y))(h:(bs=[]\/(Pure X/\∀ o∈Y,Pure o))/\K X Y):Wd P f ars bs K:=
 xh hF (by rintro _ _ ⟨rfl,rfl⟩;exact h)
theorem zH{F G R:Prop}(c:F)(r:R)(h:F->R->G:=by
 intro c r
 first
 | ((with_reducible apply xc);exact zG2 c r)
 | ((with_reducible apply xf);exact xe c r)
 | fail):G:=h c r
theorem zF0{G:Prop}(h:G:=by first|exact zE|with_reducible exact zB0|((with_reducible apply q_Meet);exact zM)|fail):G:=h
theorem zF1{G:Prop}(h:G:=by first|with_reducible exact zB0|((with_reducible apply q_Meet);exact zM)|fail):G:=h
theorem zI{G p q:Prop}(a:p)(b:q)(h:p->q->G:=by intro a b;with_reducible exact And.intro a b):G:=h a b
theorem zD{G R d:Prop}(k:d->R)(h:(d->R)->G:=by intro k;with_reducible exact zB k):G:=h k
theorem zX{F G R:Prop}(c:F)(r:R)(h:F->R->G:=by intro c r;((with_reducible apply q_CallE);exact CallE_mk c r)):G:=h c r
theorem zU{F G R:Prop}(c:F)(r:R)(h:F->R->G:=by intro c r;((with_reducible apply xf);exact xe c r)):G:=h c r
theorem FI(M:Md){f:FuncId}{fn:Func}{N:Nat}(hf:M.P.funcs[f]?=some fn)(hN:fn.ntmps=N)(pl:List (Nat×Plan)){c:Code}{rs:List ResultVar}{ars:List D}{Rs:D->List D->Prop}(hb:fn.body=some c)(hrs:fn.results=rs.toArray)(h:AC M N pl c (retK M.P rs ars Rs) (opnS 0 ars (St.ent ars)))
  (hname:(fn.name == "runtime.NumGoroutine")=false:=by kernel_rfl) (hck:chkC pl N c=true:=by decide +kernel)
  (hlen:ars.length<=N:=by simp) (hn:ars.length<=900:=by simp) (hA:lenA ars=true:=by rfl) (ho:opnB ars=true:=by first|rfl|simp only [go_sem]):FCon M.P f ars Rs:=FCon.intro M fn hf hname hb N hN hrs pl hck hlen hn hA ho h
abbrev FT:=FCon Tryz.prog
theorem w1 {p : Prop} (h : p) : WFx p := ⟨h⟩
theorem w2 {p0 p1 : Prop} (h0 : p0) (h1 : p1) : WFx (p0 ∧ p1) := ⟨⟨h0, h1⟩⟩
theorem w3 {p0 p1 p2 : Prop} (h0 : p0) (h1 : p1) (h2 : p2) : WFx (p0 ∧ p1 ∧ p2) := ⟨⟨h0, h1, h2⟩⟩
theorem w4 {p0 p1 p2 p3 : Prop} (h0 : p0) (h1 : p1) (h2 : p2) (h3 : p3) : WFx (p0 ∧ p1 ∧ p2 ∧ p3) := ⟨⟨h0, h1, h2, h3⟩⟩
theorem w5 {p0 p1 p2 p3 p4 : Prop} (h0 : p0) (h1 : p1) (h2 : p2) (h3 : p3) (h4 : p4) : WFx (p0 ∧ p1 ∧ p2 ∧ p3 ∧ p4) := ⟨⟨h0, h1, h2, h3, h4⟩⟩
theorem w6 {p0 p1 p2 p3 p4 p5 : Prop} (h0 : p0) (h1 : p1) (h2 : p2) (h3 : p3) (h4 : p4) (h5 : p5) : WFx (p0 ∧ p1 ∧ p2 ∧ p3 ∧ p4 ∧ p5) := ⟨⟨h0, h1, h2, h3, h4, h5⟩⟩
theorem w7 {p0 p1 p2 p3 p4 p5 p6 : Prop} (h0 : p0) (h1 : p1) (h2 : p2) (h3 : p3) (h4 : p4) (h5 : p5) (h6 : p6) : WFx (p0 ∧ p1 ∧ p2 ∧ p3 ∧ p4 ∧ p5 ∧ p6) := ⟨⟨h0, h1, h2, h3, h4, h5, h6⟩⟩
theorem w8 {p0 p1 p2 p3 p4 p5 p6 p7 : Prop} (h0 : p0) (h1 : p1) (h2 : p2) (h3 : p3) (h4 : p4) (h5 : p5) (h6 : p6) (h7 : p7) : WFx (p0 ∧ p1 ∧ p2 ∧ p3 ∧ p4 ∧ p5 ∧ p6 ∧ p7) := ⟨⟨h0, h1, h2, h3, h4, h5, h6, h7⟩⟩
theorem w9 {p0 p1 p2 p3 p4 p5 p6 p7 p8 : Prop} (h0 : p0) (h1 : p1) (h2 : p2) (h3 : p3) (h4 : p4) (h5 : p5) (h6 : p6) (h7 : p7) (h8 : p8) : WFx (p0 ∧ p1 ∧ p2 ∧ p3 ∧ p4 ∧ p5 ∧ p6 ∧ p7 ∧ p8) := ⟨⟨h0, h1, h2, h3, h4, h5, h6, h7, h8⟩⟩
theorem w10 {p0 p1 p2 p3 p4 p5 p6 p7 p8 p9 : Prop} (h0 : p0) (h1 : p1) (h2 : p2) (h3 : p3) (h4 : p4) (h5 : p5) (h6 : p6) (h7 : p7) (h8 : p8) (h9 : p9) : WFx (p0 ∧ p1 ∧ p2 ∧ p3 ∧ p4 ∧ p5 ∧ p6 ∧ p7 ∧ p8 ∧ p9) := ⟨⟨h0, h1, h2, h3, h4, h5, h6, h7, h8, h9⟩⟩
end
section
theorem ck_3:ck Tryz.prog 3=some (false,1,[.s (.int .i64 0)]):=by kernel_rfl
theorem ck_4:ck Tryz.prog 4=some (false,1,[.s (.bool false)]):=by kernel_rfl
theorem un_4:Tryz.prog.underlying 4=some (.bool):=by kernel_rfl
theorem ck_9:ck Tryz.prog 9=some (false,1,[.s (.string ⟨#[]⟩)]):=by kernel_rfl
theorem un_9:Tryz.prog.underlying 9=some (.string):=by kernel_rfl
theorem tk_22:tk Tryz.prog 22=.sl 129 3 48 [.s (.string ⟨#[]⟩),.s (.int .i64 0),.nil]:=by kernel_rfl
theorem ck_22:ck Tryz.prog 22=some (false,1,[.nil]):=by kernel_rfl
theorem un_22:Tryz.prog.underlying 22=some (.slice 129):=by kernel_rfl
theorem tk_23:tk Tryz.prog 23=.sl 132 6 88 [.s (.int .i64 0),.s (.int .i64 0),.s (.int .i64 0),.s (.string ⟨#[]⟩),.nil,.nil]:=by kernel_rfl
theorem ck_23:ck Tryz.prog 23=some (false,1,[.nil]):=by kernel_rfl
theorem un_23:Tryz.prog.underlying 23=some (.slice 132):=by kernel_rfl
theorem tk_25:tk Tryz.prog 25=.st 2 [(0,1,false),(1,1,false)] [.nil,.nil]:=by kernel_rfl
theorem ck_25:ck Tryz.prog 25=some (true,2,[.nil,.nil]):=by kernel_rfl
theorem tk_26:tk Tryz.prog 26=.sl 70 1 24 [.nil]:=by kernel_rfl
theorem ck_26:ck Tryz.prog 26=some (false,1,[.nil]):=by kernel_rfl
theorem un_26:Tryz.prog.underlying 26=some (.slice 70):=by kernel_rfl
theorem tk_29:tk Tryz.prog 29=.sl 143 3 32 [.s (.int .i64 0),.s (.string ⟨#[]⟩),.s (.int .i64 0)]:=by kernel_rfl
theorem ck_29:ck Tryz.prog 29=some (false,1,[.nil]):=by kernel_rfl
theorem un_29:Tryz.prog.underlying 29=some (.slice 143):=by kernel_rfl
theorem tk_31:tk Tryz.prog 31=.st 1 [(0,1,false)] [.nil]:=by kernel_rfl
theorem ck_31:ck Tryz.prog 31=some (true,1,[.nil]):=by kernel_rfl
theorem tk_34:tk Tryz.prog 34=.sl 137 3 48 [.s (.string ⟨#[]⟩),.s (.int .i64 0),.nil]:=by kernel_rfl
theorem ck_34:ck Tryz.prog 34=some (false,1,[.nil]):=by kernel_rfl
theorem un_34:Tryz.prog.underlying 34=some (.slice 137):=by kernel_rfl
theorem tk_35:tk Tryz.prog 35=.sl 163 6 88 [.s (.int .i64 0),.s (.int .i64 0),.s (.int .i64 0),.s (.string ⟨#[]⟩),.nil,.nil]:=by kernel_rfl
theorem ck_35:ck Tryz.prog 35=some (false,1,[.nil]):=by kernel_rfl
theorem un_35:Tryz.prog.underlying 35=some (.slice 163):=by kernel_rfl
theorem tk_37:tk Tryz.prog 37=.st 2 [(0,1,false),(1,1,false)] [.nil,.nil]:=by kernel_rfl
theorem ck_37:ck Tryz.prog 37=some (true,2,[.nil,.nil]):=by kernel_rfl
theorem tk_39:tk Tryz.prog 39=.sl 62 1 24 [.nil]:=by kernel_rfl
theorem ck_39:ck Tryz.prog 39=some (false,1,[.nil]):=by kernel_rfl
theorem un_39:Tryz.prog.underlying 39=some (.slice 62):=by kernel_rfl
theorem tk_50:tk Tryz.prog 50=.sl 3 1 8 [.s (.int .i64 0)]:=by kernel_rfl
theorem ck_50:ck Tryz.prog 50=some (false,1,[.nil]):=by kernel_rfl
theorem un_50:Tryz.prog.underlying 50=some (.slice 3):=by kernel_rfl
theorem tk_59:tk Tryz.prog 59=.st 4 [(0,1,false),(1,1,false),(2,1,false),(3,1,false)] [.s (.int .i64 0),.s (.int .i64 0),.s (.string ⟨#[]⟩),.nil]:=by kernel_rfl
theorem ck_59:ck Tryz.prog 59=some (true,4,[.s (.int .i64 0),.s (.int .i64 0),.s (.string ⟨#[]⟩),.nil]):=by kernel_rfl
theorem tk_60:tk Tryz.prog 60=.sl 59 4 56 [.s (.int .i64 0),.s (.int .i64 0),.s (.string ⟨#[]⟩),.nil]:=by kernel_rfl
theorem ck_60:ck Tryz.prog 60=some (false,1,[.nil]):=by kernel_rfl
theorem un_60:Tryz.prog.underlying 60=some (.slice 59):=by kernel_rfl
theorem tk_62:tk Tryz.prog 62=.st 1 [(0,1,false)] [.nil]:=by kernel_rfl
theorem ck_62:ck Tryz.prog 62=some (true,1,[.nil]):=by kernel_rfl
theorem tk_68:tk Tryz.prog 68=.sl 213 4 56 [.s (.int .i64 0),.s (.int .i64 0),.s (.string ⟨#[]⟩),.nil]:=by kernel_rfl
theorem ck_68:ck Tryz.prog 68=some (false,1,[.nil]):=by kernel_rfl
theorem un_68:Tryz.prog.underlying 68=some (.slice 213):=by kernel_rfl
theorem tk_70:tk Tryz.prog 70=.st 1 [(0,1,false)] [.nil]:=by kernel_rfl
theorem ck_70:ck Tryz.prog 70=some (true,1,[.nil]):=by kernel_rfl
theorem WI:tk Tryz.prog 75=.sl 160 2 32 [.s (.int .i64 0),.nil]:=by kernel_rfl
theorem ck_75:ck Tryz.prog 75=some (false,1,[.nil]):=by kernel_rfl
theorem un_75:Tryz.prog.underlying 75=some (.slice 160):=by kernel_rfl
theorem tk_77:tk Tryz.prog 77=.st 6 [(0,2,true),(2,1,false),(3,1,false),(4,1,false),(5,1,false)] [.nil,.nil,.nil,.s (.int .i64 0),.s (.int .i64 0),.s (.int .i64 0)]:=by kernel_rfl
theorem tk_78:tk Tryz.prog 78=.sl 149 3 64 [.s (.string ⟨#[]⟩),.nil,.nil]:=by kernel_rfl
theorem tk_90:tk Tryz.prog 90=.st 1 [(0,1,false)] [.nil]:=by kernel_rfl
theorem tk_92:tk Tryz.prog 92=.st 6 [(0,2,true),(2,1,true),(3,1,false),(4,1,false),(5,1,false)] [.nil,.nil,.nil,.s (.int .i64 0),.s (.int .i64 0),.s (.int .i64 0)]:=by kernel_rfl
theorem ck_96:ck Tryz.prog 96=some (false,1,[.np]):=by kernel_rfl
theorem tk_109:tk Tryz.prog 109=.sl 110 1 24 [.nil]:=by kernel_rfl
theorem un_109:Tryz.prog.underlying 109=some (.slice 110):=by kernel_rfl
theorem tk_110:tk Tryz.prog 110=.sl 112 4 56 [.s (.int .i64 0),.s (.int .i64 0),.s (.string ⟨#[]⟩),.nil]:=by kernel_rfl
theorem ck_110:ck Tryz.prog 110=some (false,1,[.nil]):=by kernel_rfl
theorem un_110:Tryz.prog.underlying 110=some (.slice 112):=by kernel_rfl
theorem tk_112:tk Tryz.prog 112=.st 4 [(0,1,false),(1,1,false),(2,1,false),(3,1,false)] [.s (.int .i64 0),.s (.int .i64 0),.s (.string ⟨#[]⟩),.nil]:=by kernel_rfl
theorem ck_112:ck Tryz.prog 112=some (true,4,[.s (.int .i64 0),.s (.int .i64 0),.s (.string ⟨#[]⟩),.nil]):=by kernel_rfl
theorem tk_117:tk Tryz.prog 117=.st 1 [(0,1,false)] [.nil]:=by kernel_rfl
theorem tk_119:tk Tryz.prog 119=.sl 121 1 24 [.nil]:=by kernel_rfl
theorem un_119:Tryz.prog.underlying 119=some (.slice 121):=by kernel_rfl
theorem tk_121:tk Tryz.prog 121=.sl 96 1 8 [.np]:=by kernel_rfl
theorem ck_121:ck Tryz.prog 121=some (false,1,[.nil]):=by kernel_rfl
theorem un_121:Tryz.prog.underlying 121=some (.slice 96):=by kernel_rfl
theorem tk_127:tk Tryz.prog 127=.sl 270 3 48 [.s (.string ⟨#[]⟩),.s (.bool false),.nil]:=by kernel_rfl
theorem ck_127:ck Tryz.prog 127=some (false,1,[.nil]):=by kernel_rfl
theorem un_127:Tryz.prog.underlying 127=some (.slice 270):=by kernel_rfl
theorem tk_129:tk Tryz.prog 129=.st 3 [(0,1,false),(1,1,false),(2,1,false)] [.s (.string ⟨#[]⟩),.s (.int .i64 0),.nil]:=by kernel_rfl
theorem ck_129:ck Tryz.prog 129=some (true,3,[.s (.string ⟨#[]⟩),.s (.int .i64 0),.nil]):=by kernel_rfl
theorem tk_132:tk Tryz.prog 132=.st 6 [(0,1,false),(1,1,false),(2,1,false),(3,1,false),(4,1,false),(5,1,false)] [.s (.int .i64 0),.s (.int .i64 0),.s (.int .i64 0),.s (.string ⟨#[]⟩),.nil,.nil]:=by kernel_rfl
theorem ck_132:ck Tryz.prog 132=some (true,6,[.s (.int .i64 0),.s (.int .i64 0),.s (.int .i64 0),.s (.string ⟨#[]⟩),.nil,.nil]):=by kernel_rfl
theorem tk_135:tk Tryz.prog 135=.sl 141 3 48 [.s (.string ⟨#[]⟩),.s (.bool false),.nil]:=by kernel_rfl
theorem ck_135:ck Tryz.prog 135=some (false,1,[.nil]):=by kernel_rfl
theorem un_135:Tryz.prog.underlying 135=some (.slice 141):=by kernel_rfl
theorem tk_137:tk Tryz.prog 137=.st 3 [(0,1,false),(1,1,false),(2,1,false)] [.s (.string ⟨#[]⟩),.s (.int .i64 0),.nil]:=by kernel_rfl
theorem ck_137:ck Tryz.prog 137=some (true,3,[.s (.string ⟨#[]⟩),.s (.int .i64 0),.nil]):=by kernel_rfl
theorem tk_141:tk Tryz.prog 141=.st 3 [(0,1,false),(1,1,false),(2,1,true)] [.s (.string ⟨#[]⟩),.s (.bool false),.nil]:=by kernel_rfl
theorem ck_141:ck Tryz.prog 141=some (true,3,[.s (.string ⟨#[]⟩),.s (.bool false),.nil]):=by kernel_rfl
theorem tk_143:tk Tryz.prog 143=.st 3 [(0,1,false),(1,1,false),(2,1,false)] [.s (.int .i64 0),.s (.string ⟨#[]⟩),.s (.int .i64 0)]:=by kernel_rfl
theorem ck_143:ck Tryz.prog 143=some (true,3,[.s (.int .i64 0),.s (.string ⟨#[]⟩),.s (.int .i64 0)]):=by kernel_rfl
theorem tk_149:tk Tryz.prog 149=.st 3 [(0,1,false),(1,1,true),(2,1,false)] [.s (.string ⟨#[]⟩),.nil,.nil]:=by kernel_rfl
theorem tk_152:tk Tryz.prog 152=.sl 31 1 24 [.nil]:=by kernel_rfl
theorem un_152:Tryz.prog.underlying 152=some (.slice 31):=by kernel_rfl
theorem tk_160:tk Tryz.prog 160=.st 2 [(0,1,false),(1,1,true)] [.s (.int .i64 0),.nil]:=by kernel_rfl
theorem ck_160:ck Tryz.prog 160=some (true,2,[.s (.int .i64 0),.nil]):=by kernel_rfl
theorem tk_163:tk Tryz.prog 163=.st 6 [(0,1,false),(1,1,false),(2,1,false),(3,1,false),(4,1,false),(5,1,false)] [.s (.int .i64 0),.s (.int .i64 0),.s (.int .i64 0),.s (.string ⟨#[]⟩),.nil,.nil]:=by kernel_rfl
theorem ck_163:ck Tryz.prog 163=some (true,6,[.s (.int .i64 0),.s (.int .i64 0),.s (.int .i64 0),.s (.string ⟨#[]⟩),.nil,.nil]):=by kernel_rfl
theorem tk_166:tk Tryz.prog 166=.sl 9 1 16 [.s (.string ⟨#[]⟩)]:=by kernel_rfl
theorem un_166:Tryz.prog.underlying 166=some (.slice 9):=by kernel_rfl
theorem tk_178:tk Tryz.prog 178=.st 4 [(0,1,false),(1,1,false),(2,1,false),(3,1,false)] [.s (.int .i64 0),.s (.int .i64 0),.s (.string ⟨#[]⟩),.nil]:=by kernel_rfl
theorem tk_182:tk Tryz.prog 182=.st 4 [(0,1,false),(1,1,false),(2,1,false),(3,1,false)] [.s (.string ⟨#[]⟩),.nil,.nil,.np]:=by kernel_rfl
theorem tk_213:tk Tryz.prog 213=.st 4 [(0,1,false),(1,1,false),(2,1,false),(3,1,false)] [.s (.int .i64 0),.s (.int .i64 0),.s (.string ⟨#[]⟩),.nil]:=by kernel_rfl
theorem ck_213:ck Tryz.prog 213=some (true,4,[.s (.int .i64 0),.s (.int .i64 0),.s (.string ⟨#[]⟩),.nil]):=by kernel_rfl
theorem tk_231:tk Tryz.prog 231=.sl 29 1 24 [.nil]:=by kernel_rfl
theorem un_231:Tryz.prog.underlying 231=some (.slice 29):=by kernel_rfl
theorem tk_266:tk Tryz.prog 266=.sl 328 3 32 [.s (.int .i64 0),.s (.string ⟨#[]⟩),.s (.int .i64 0)]:=by kernel_rfl
theorem ck_266:ck Tryz.prog 266=some (false,1,[.nil]):=by kernel_rfl
theorem un_266:Tryz.prog.underlying 266=some (.slice 328):=by kernel_rfl
theorem tk_268:tk Tryz.prog 268=.st 1 [(0,1,false)] [.nil]:=by kernel_rfl
theorem ck_268:ck Tryz.prog 268=some (true,1,[.nil]):=by kernel_rfl
theorem tk_270:tk Tryz.prog 270=.st 3 [(0,1,false),(1,1,false),(2,1,true)] [.s (.string ⟨#[]⟩),.s (.bool false),.nil]:=by kernel_rfl
theorem ck_270:ck Tryz.prog 270=some (true,3,[.s (.string ⟨#[]⟩),.s (.bool false),.nil]):=by kernel_rfl
theorem tk_328:tk Tryz.prog 328=.st 3 [(0,1,false),(1,1,false),(2,1,false)] [.s (.int .i64 0),.s (.string ⟨#[]⟩),.s (.int .i64 0)]:=by kernel_rfl
theorem ck_328:ck Tryz.prog 328=some (true,3,[.s (.int .i64 0),.s (.string ⟨#[]⟩),.s (.int .i64 0)]):=by kernel_rfl
theorem mixed:Tryz.prog.follows .mixedOrders=true:=by kernel_rfl
def mdT:FuncId->List Nat
 | 10=>[2,2]
 | 17=>[1,0]
 | 18=>[1,0]
 | 19=>[1,0]
 | 23=>[2,2]
 | 26=>[1,0]
 | 36=>[1,0,0,2,0]
 | 37=>[1,2,2,0]
 | 47=>[1,0,2,0]
 | 49=>[1,2,2,0]
 | 50=>[1,2]
 | 55=>[1,0]
 | 56=>[1,0]
 | 57=>[1,0]
 | 58=>[1,0]
 | 66=>[1]
 | 76=>[1]
 | 79=>[1,0,0,0]
 | 80=>[1,0,0]
 | 81=>[2,2,2]
 | 82=>[1,0,0]
 | 99=>[1]
 | 101=>[1,0,0,0]
 | 103=>[1,0,0]
 | 104=>[1,2,2]
 | 111=>[1,0]
 | 120=>[1,0]
 | 121=>[1]
 | 130=>[1,0]
 | 131=>[2,0,2]
 | 150=>[1,0,2]
 | 151=>[2]
 | 164=>[1]
 | 165=>[1,0]
 | 166=>[1,0]
 | 167=>[1,1]
 | 168=>[1]
 | 169=>[1]
 | 170=>[1]
 | 171=>[1]
 | 193=>[1,0,1]
 | 209=>[1]
 | 210=>[1,0]
 | 211=>[1,0]
 | 212=>[1,0]
 | 213=>[1,0]
 | 215=>[0,0,0,1]
 | 216=>[1,0,0]
 | 217=>[1,0]
 | 219=>[1,0]
 | 236=>[1,0]
 | 239=>[1,0]
 | 240=>[1,2]
 | 241=>[1,0]
 | 250=>[1,0]
 | 252=>[1]
 | 255=>[1,0]
 | 256=>[1,0,0]
 | 261=>[1,0]
 | 262=>[1,0]
 | 263=>[1,0]
 | _=>[]
noncomputable def PM:Md:=⟨Tryz.prog,mdT,mixed,false,fun _=>false⟩
theorem PM_P:PM.P=Tryz.prog:=rfl
theorem PM_lr(i:Nat):PM.lr i=false:=rfl
/-- the same;the guards of the regions l are known. -/
noncomputable def PMr(l:List Nat):Md:=⟨Tryz.prog,mdT,mixed,false,litB l⟩
theorem PMr_P(l:List Nat):(PMr l).P=Tryz.prog:=rfl
theorem PMr_lr(l:List Nat)(i:Nat):(PMr l).lr i=litB l i:=rfl
theorem PMr_md(l:List Nat):(PMr l).md=PM.md:=rfl
theorem md_3:PM.md 3=[]:=rfl
theorem md_4:PM.md 4=[]:=rfl
theorem md_5:PM.md 5=[]:=rfl
theorem md_8:PM.md 8=[]:=rfl
theorem md_9:PM.md 9=[]:=rfl
theorem md_10:PM.md 10=[2,2]:=rfl
theorem md_11:PM.md 11=[]:=rfl
theorem md_12:PM.md 12=[]:=rfl
theorem md_13:PM.md 13=[]:=rfl
theorem md_14:PM.md 14=[]:=rfl
theorem md_15:PM.md 15=[]:=rfl
theorem md_16:PM.md 16=[]:=rfl
theorem md_17:PM.md 17=[1,0]:=rfl
theorem md_18:PM.md 18=[1,0]:=rfl
theorem md_21:PM.md 21=[]:=rfl
theorem md_22:PM.md 22=[]:=rfl
theorem md_23:PM.md 23=[2,2]:=rfl
theorem md_24:PM.md 24=[]:=rfl
theorem md_25:PM.md 25=[]:=rfl
theorem md_26:PM.md 26=[1,0]:=rfl
theorem md_27:PM.md 27=[]:=rfl
theorem md_29:PM.md 29=[]:=rfl
theorem md_31:PM.md 31=[]:=rfl
theorem md_32:PM.md 32=[]:=rfl
theorem md_33:PM.md 33=[]:=rfl
theorem md_34:PM.md 34=[]:=rfl
theorem md_35:PM.md 35=[]:=rfl
theorem md_36:PM.md 36=[1,0,0,2,0]:=rfl
theorem md_37:PM.md 37=[1,2,2,0]:=rfl
theorem md_38:PM.md 38=[]:=rfl
theorem md_39:PM.md 39=[]:=rfl
theorem md_40:PM.md 40=[]:=rfl
theorem md_41:PM.md 41=[]:=rfl
theorem md_42:PM.md 42=[]:=rfl
theorem md_43:PM.md 43=[]:=rfl
theorem md_44:PM.md 44=[]:=rfl
theorem md_45:PM.md 45=[]:=rfl
theorem md_46:PM.md 46=[]:=rfl
theorem md_47:PM.md 47=[1,0,2,0]:=rfl
theorem md_48:PM.md 48=[]:=rfl
theorem md_49:PM.md 49=[1,2,2,0]:=rfl
theorem md_50:PM.md 50=[1,2]:=rfl
theorem md_51:PM.md 51=[]:=rfl
theorem md_52:PM.md 52=[]:=rfl
theorem md_53:PM.md 53=[]:=rfl
theorem md_54:PM.md 54=[]:=rfl
theorem md_55:PM.md 55=[1,0]:=rfl
theorem md_56:PM.md 56=[1,0]:=rfl
theorem md_57:PM.md 57=[1,0]:=rfl
theorem md_58:PM.md 58=[1,0]:=rfl
theorem md_59:PM.md 59=[]:=rfl
theorem md_60:PM.md 60=[]:=rfl
theorem md_61:PM.md 61=[]:=rfl
theorem md_62:PM.md 62=[]:=rfl
theorem md_63:PM.md 63=[]:=rfl
theorem md_64:PM.md 64=[]:=rfl
theorem md_67:PM.md 67=[]:=rfl
theorem md_68:PM.md 68=[]:=rfl
theorem md_69:PM.md 69=[]:=rfl
theorem md_70:PM.md 70=[]:=rfl
theorem md_71:PM.md 71=[]:=rfl
theorem md_72:PM.md 72=[]:=rfl
theorem md_73:PM.md 73=[]:=rfl
theorem md_74:PM.md 74=[]:=rfl
theorem md_75:PM.md 75=[]:=rfl
theorem md_76:PM.md 76=[1]:=rfl
theorem md_77:PM.md 77=[]:=rfl
theorem md_78:PM.md 78=[]:=rfl
theorem md_79:PM.md 79=[1,0,0,0]:=rfl
theorem md_80:PM.md 80=[1,0,0]:=rfl
theorem md_81:PM.md 81=[2,2,2]:=rfl
theorem md_82:PM.md 82=[1,0,0]:=rfl
theorem md_83:PM.md 83=[]:=rfl
theorem md_84:PM.md 84=[]:=rfl
theorem md_85:PM.md 85=[]:=rfl
theorem md_86:PM.md 86=[]:=rfl
theorem md_87:PM.md 87=[]:=rfl
theorem md_88:PM.md 88=[]:=rfl
theorem md_89:PM.md 89=[]:=rfl
theorem md_90:PM.md 90=[]:=rfl
theorem md_91:PM.md 91=[]:=rfl
theorem md_92:PM.md 92=[]:=rfl
theorem md_93:PM.md 93=[]:=rfl
theorem md_94:PM.md 94=[]:=rfl
theorem md_95:PM.md 95=[]:=rfl
theorem md_96:PM.md 96=[]:=rfl
theorem md_97:PM.md 97=[]:=rfl
theorem md_98:PM.md 98=[]:=rfl
theorem md_99:PM.md 99=[1]:=rfl
theorem md_100:PM.md 100=[]:=rfl
theorem md_101:PM.md 101=[1,0,0,0]:=rfl
theorem md_102:PM.md 102=[]:=rfl
theorem md_103:PM.md 103=[1,0,0]:=rfl
theorem md_104:PM.md 104=[1,2,2]:=rfl
theorem md_105:PM.md 105=[]:=rfl
theorem md_106:PM.md 106=[]:=rfl
theorem md_107:PM.md 107=[]:=rfl
theorem md_108:PM.md 108=[]:=rfl
theorem md_109:PM.md 109=[]:=rfl
theorem md_110:PM.md 110=[]:=rfl
theorem md_111:PM.md 111=[1,0]:=rfl
theorem md_112:PM.md 112=[]:=rfl
theorem md_113:PM.md 113=[]:=rfl
theorem md_114:PM.md 114=[]:=rfl
theorem md_115:PM.md 115=[]:=rfl
theorem md_116:PM.md 116=[]:=rfl
theorem md_117:PM.md 117=[]:=rfl
theorem md_118:PM.md 118=[]:=rfl
theorem md_119:PM.md 119=[]:=rfl
theorem md_121:PM.md 121=[1]:=rfl
theorem md_122:PM.md 122=[]:=rfl
theorem md_123:PM.md 123=[]:=rfl
theorem md_124:PM.md 124=[]:=rfl
theorem md_125:PM.md 125=[]:=rfl
theorem md_126:PM.md 126=[]:=rfl
theorem md_127:PM.md 127=[]:=rfl
theorem md_128:PM.md 128=[]:=rfl
theorem md_129:PM.md 129=[]:=rfl
theorem md_130:PM.md 130=[1,0]:=rfl
theorem md_131:PM.md 131=[2,0,2]:=rfl
theorem md_132:PM.md 132=[]:=rfl
theorem md_133:PM.md 133=[]:=rfl
theorem md_134:PM.md 134=[]:=rfl
theorem md_135:PM.md 135=[]:=rfl
theorem md_136:PM.md 136=[]:=rfl
theorem md_137:PM.md 137=[]:=rfl
theorem md_138:PM.md 138=[]:=rfl
theorem md_139:PM.md 139=[]:=rfl
theorem md_140:PM.md 140=[]:=rfl
theorem md_141:PM.md 141=[]:=rfl
theorem md_142:PM.md 142=[]:=rfl
theorem md_143:PM.md 143=[]:=rfl
theorem md_144:PM.md 144=[]:=rfl
theorem md_145:PM.md 145=[]:=rfl
theorem md_146:PM.md 146=[]:=rfl
theorem md_147:PM.md 147=[]:=rfl
theorem md_148:PM.md 148=[]:=rfl
theorem md_149:PM.md 149=[]:=rfl
theorem md_150:PM.md 150=[1,0,2]:=rfl
theorem md_151:PM.md 151=[2]:=rfl
theorem md_152:PM.md 152=[]:=rfl
theorem md_153:PM.md 153=[]:=rfl
theorem md_154:PM.md 154=[]:=rfl
theorem md_155:PM.md 155=[]:=rfl
theorem md_156:PM.md 156=[]:=rfl
theorem md_157:PM.md 157=[]:=rfl
theorem md_158:PM.md 158=[]:=rfl
theorem md_159:PM.md 159=[]:=rfl
theorem md_160:PM.md 160=[]:=rfl
theorem md_161:PM.md 161=[]:=rfl
theorem md_163:PM.md 163=[]:=rfl
theorem md_166:PM.md 166=[1,0]:=rfl
theorem md_172:PM.md 172=[]:=rfl
theorem md_173:PM.md 173=[]:=rfl
theorem md_174:PM.md 174=[]:=rfl
theorem md_175:PM.md 175=[]:=rfl
theorem md_176:PM.md 176=[]:=rfl
theorem md_177:PM.md 177=[]:=rfl
theorem md_178:PM.md 178=[]:=rfl
theorem md_179:PM.md 179=[]:=rfl
theorem md_180:PM.md 180=[]:=rfl
theorem md_181:PM.md 181=[]:=rfl
theorem md_182:PM.md 182=[]:=rfl
theorem md_183:PM.md 183=[]:=rfl
theorem md_184:PM.md 184=[]:=rfl
theorem md_185:PM.md 185=[]:=rfl
theorem md_186:PM.md 186=[]:=rfl
theorem md_187:PM.md 187=[]:=rfl
theorem md_188:PM.md 188=[]:=rfl
theorem md_189:PM.md 189=[]:=rfl
theorem md_190:PM.md 190=[]:=rfl
theorem md_191:PM.md 191=[]:=rfl
theorem md_192:PM.md 192=[]:=rfl
theorem md_193:PM.md 193=[1,0,1]:=rfl
theorem md_194:PM.md 194=[]:=rfl
theorem md_195:PM.md 195=[]:=rfl
theorem md_196:PM.md 196=[]:=rfl
theorem md_197:PM.md 197=[]:=rfl
theorem md_198:PM.md 198=[]:=rfl
theorem md_201:PM.md 201=[]:=rfl
theorem md_213:PM.md 213=[1,0]:=rfl
theorem md_220:PM.md 220=[]:=rfl
theorem md_221:PM.md 221=[]:=rfl
theorem md_222:PM.md 222=[]:=rfl
theorem md_223:PM.md 223=[]:=rfl
theorem md_224:PM.md 224=[]:=rfl
theorem md_225:PM.md 225=[]:=rfl
theorem md_226:PM.md 226=[]:=rfl
theorem md_227:PM.md 227=[]:=rfl
theorem md_228:PM.md 228=[]:=rfl
theorem md_229:PM.md 229=[]:=rfl
theorem md_231:PM.md 231=[]:=rfl
theorem md_242:PM.md 242=[]:=rfl
theorem md_243:PM.md 243=[]:=rfl
theorem md_244:PM.md 244=[]:=rfl
theorem md_245:PM.md 245=[]:=rfl
theorem md_257:PM.md 257=[]:=rfl
theorem md_258:PM.md 258=[]:=rfl
theorem md_259:PM.md 259=[]:=rfl
theorem md_266:PM.md 266=[]:=rfl
theorem md_268:PM.md 268=[]:=rfl
theorem md_270:PM.md 270=[]:=rfl
attribute [go_sem] PM_P PM_lr PMr_P PMr_lr PMr_md Md.at_P Md.at_md Md.at_lit litB_nil litB_cons tk_22 tk_23 tk_25 tk_26 tk_29 tk_31 tk_34 tk_35 tk_37 tk_39 tk_50 tk_59 tk_60 tk_62 tk_68 tk_70 WI tk_77 tk_78 tk_90 tk_92 tk_109 tk_110 tk_112 tk_117 tk_119 tk_121 tk_127 tk_129 tk_132 tk_135 tk_137 tk_141 tk_143 tk_149 tk_152 tk_160 tk_163 tk_166 tk_178 tk_182 tk_213 tk_231 tk_266 tk_268 tk_270 tk_328 ck_3 ck_4 ck_9 ck_22 ck_23 ck_25 ck_26 ck_29 ck_31 ck_34 ck_35 ck_37 ck_39 ck_50 ck_59 ck_60 ck_62 ck_68 ck_70 ck_75 ck_96 ck_110 ck_112 ck_121 ck_127 ck_129 ck_132 ck_135 ck_137 ck_141 ck_143 ck_160 ck_163 ck_213 ck_266 ck_268 ck_270 ck_328 un_4 un_9 un_22 un_23 un_26 un_29 un_34 un_35 un_39 un_50 un_60 un_68 un_75 un_109 un_110 un_119 un_121 un_127 un_135 un_152 un_166 un_231 un_266 md_3 md_4 md_5 md_8 md_9 md_10 md_11 md_12 md_13 md_14 md_15 md_16 md_17 md_18 md_21 md_22 md_23 md_24 md_25 md_26 md_27 md_29 md_31 md_32 md_33 md_34 md_35 md_36 md_37 md_38 md_39 md_40 md_41 md_42 md_43 md_44 md_45 md_46 md_47 md_48 md_49 md_50 md_51 md_52 md_53 md_54 md_55 md_56 md_57 md_58 md_59 md_60 md_61 md_62 md_63 md_64 md_67 md_68 md_69 md_70 md_71 md_72 md_73 md_74 md_75 md_76 md_77 md_78 md_79 md_80 md_81 md_82 md_83 md_84 md_85 md_86 md_87 md_88 md_89 md_90 md_91 md_92 md_93 md_94 md_95 md_96 md_97 md_98 md_99 md_100 md_101 md_102 md_103 md_104 md_105 md_106 md_107 md_108 md_109 md_110 md_111 md_112 md_113 md_114 md_115 md_116 md_117 md_118 md_119 md_121 md_122 md_123 md_124 md_125 md_126 md_127 md_128 md_129 md_130 md_131 md_132 md_133 md_134 md_135 md_136 md_137 md_138 md_139 md_140 md_141 md_142 md_143 md_144 md_145 md_146 md_147 md_148 md_149 md_150 md_151 md_152 md_153 md_154 md_155 md_156 md_157 md_158 md_159 md_160 md_161 md_163 md_166 md_172 md_173 md_174 md_175 md_176 md_177 md_178 md_179 md_180 md_181 md_182 md_183 md_184 md_185 md_186 md_187 md_188 md_189 md_190 md_191 md_192 md_193 md_194 md_195 md_196 md_197 md_198 md_201 md_213 md_220 md_221 md_222 md_223 md_224 md_225 md_226 md_227 md_228 md_229 md_231 md_242 md_243 md_244 md_245 md_257 md_258 md_259 md_266 md_268 md_270
end
section
open Go.RowKit Go.ChangeShapes Go.WideShapes
def vP(W:World):Nat->Prop:=fun b=>b<W.heap.size
abbrev upW:Nat->Option Pos:=fun _=>none
def RepL(S:Nat->Prop)(up:Nat->Option Pos)(w:World)(ds:List D)(us:List Value):Prop:=us.length=ds.length/\∀ (j:Nat) (d:D) (u:Value),ds[j]?=some d->us[j]?=some u->Rep S up w none d u
theorem cell_lt{W:World}{b o:Nat}{v:Value}(h:W.cell? ⟨b,o,none⟩=some v):b<W.heap.size:=by
 rcases Nat.lt_or_ge b W.heap.size with q|q
 ·exact q
 ·simp [World.cell?,Array.getElem?_eq_none q] at h
theorem CellsAt.cellW{W:World}{b off:Nat}{r:List Value}(h:CellsAt (hp W) b off r){j:Nat}{u:Value}(hj:r[j]?=some u):W.cell? ⟨b,off+j,none⟩=some u:=by
 have hlt:=(List.getElem?_eq_some_iff.1 hj).1;rw [h.cell (Sub.self W) hlt,<- hj,List.getElem?_eq_getElem hlt]
theorem SlOf.rep{α:Type}{enc:α->List D}{ok:α->Prop}{k:Nat}{W:World}{R:Hp->List Value->α->Prop}(hR:∀ r x,R (hp W) r x->RepL (vP W) upW W (enc x) r/\ok x){v:Value}{xs:List α}(h:SlOf k R (hp W) v xs) :
  Rep (vP W) upW W none (.sl k (xs.map enc)) v/\∀ x∈xs,ok x:=by
 obtain ⟨a,c,rfl,h1,h2,rfl|⟨b,off,rfl,hc⟩⟩:=h
 ·exact ⟨.sl0 h2,fun x hx=>by cases hx⟩
 ·have key:∀ i (hi:i<xs.length),∃ r:List Value,r.length=k/\(∀ (j:Nat) (u:Value),r[j]?=some u->W.cell? ⟨b,off+i*k+j,none⟩=some u)/\RepL (vP W) upW W (enc xs[i]) r/\ok xs[i]:=by
   intro i hi;obtain ⟨r,r1,r2,r3⟩:=hc i hi;exact ⟨r,r1,fun j u hj=>r2.cellW hj,hR _ _ r3⟩
  refine ⟨?_,fun x hx=>?_⟩
  ·have hrows:∀ (i:Nat) (row:List D),(xs.map enc)[i]?=some row->∃ hi:i<xs.length,row=enc xs[i]:=by
    intro i row h;rw [List.getElem?_map] at h
    cases hx:xs[i]? with
    | none=>rw [hx] at h;cases h
    | some y=>
     rw [hx] at h
     injection h with h
     obtain ⟨hi,e⟩:=List.getElem?_eq_some_iff.1 hx;exact ⟨hi,by rw [<- h,<- e]⟩
   have hcell:∀ (i j:Nat) (row:List D) (d:D),(xs.map enc)[i]?=some row->row[j]?=some d->∃ u,W.cell? ⟨b,off+i*k+j,none⟩=some u/\Rep (vP W) upW W none d u:=by
    intro i j row d hi hj;obtain ⟨hi',rfl⟩:=hrows i row hi;obtain ⟨r,r1,r2,r3,-⟩:=key i hi';have hlt:j<r.length:=by rw [r3.1];exact (List.getElem?_eq_some_iff.1 hj).1
    exact ⟨r[j],r2 j _ (List.getElem?_eq_getElem hlt),r3.2 j d _ hj (List.getElem?_eq_getElem hlt)⟩
   have hlen:xs.length=(xs.map enc).length:=by simp
   rw [hlen];refine Rep.sl (fun i j=>(W.cell? ⟨b,off+i*k+j,none⟩).getD undef) (by rw [<- hlen];exact h1) h2 (fun i row hi=>?_) (fun i j row d hi hj=>?_) (fun i j row d hi hj=>?_)
   ·obtain ⟨hi',rfl⟩:=hrows i row hi
    obtain ⟨r,r1,r2,r3,-⟩:=key i hi';rw [<- r3.1,r1]
   ·obtain ⟨u,hu,hr⟩:=hcell i j row d hi hj
    exact ⟨cell_lt hu,by rw [hu];rfl⟩
   ·obtain ⟨u,hu,hr⟩:=hcell i j row d hi hj
    rw [hu];exact hr
  ·obtain ⟨i,hi,rfl⟩:=List.getElem_of_mem hx
   obtain ⟨r,_,_,_,h⟩:=key i hi;exact h
theorem Rep.slOf{α:Type}{enc:α->List D}{k:Nat}{S:Nat->Prop}{up:Nat->Option Pos}{W:World}{R:Hp->List Value->α->Prop}{xs:List α}(hk:∀ x∈xs,(enc x).length=k)(hk0:0<k)(hR:∀ r x,x∈xs->RepL S up W (enc x) r->R (hp W) r x){v:Value}(h:Rep S up W none (.sl k (xs.map enc)) v):SlOf k R (hp W) v xs:=by
 generalize hrows:xs.map enc=rows at h
 cases h with
 | sl0 hc=>
  have:xs=[]:=by cases xs with|nil=>rfl|cons _ _=>simp at hrows
  subst this;exact ⟨_,_,rfl,Nat.zero_le _,hc,.inl rfl⟩
 | @sl _ _ _ b off c us c1 c2 c3 c4 c5=>
  subst hrows;refine ⟨_,c,by simp,by simpa using c1,c2,.inr ⟨b,off,rfl,fun i hi=>?_⟩⟩
  have hg:(xs.map enc)[i]?=some (enc xs[i]):=by rw [List.getElem?_map,List.getElem?_eq_getElem hi];rfl
  have hl:=hk xs[i] (List.getElem_mem hi);have hlr:((List.range k).map (us i)).length=k:=by simp
  refine ⟨(List.range k).map (us i),hlr,Vi (by omega) (fun j hj=>?_),hR _ _ (List.getElem_mem hi) ⟨by simp [hl],fun j d u hd hu=>?_⟩⟩
  ·have hjk:j<k:=by omega
   have:=(c4 i j _ ((enc xs[i])[j]'(by omega)) hg (List.getElem?_eq_getElem _)).2
   rw [this]
   simp [hjk]
  ·have hjk:j<k:=by rw [<- hl];exact (List.getElem?_eq_some_iff.1 hd).1
   have hu':us i j=u:=by simpa [hjk] using hu
   subst hu';exact c5 i j _ d hg hd
def RB(S:Nat->Prop)(up:Nat->Option Pos)(w:World):D->Value->Prop
 | .ag xs,v=>∃ us:List Value,v=.agg us.toArray/\RepL S up w xs us
 | d,v=>Rep S up w none d v
def lentB:D->Bool
 | .ag xs=>xs.all fun y=>!ownB y
 | d=>!ownB d
theorem Rep.lent{S:Nat->Prop}{up:Nat->Option Pos}{w:World}{p:Option Pos}{d:D}{v:Value}(h:Rep S up w p d v)(hd:ownB d=false):Rep S up w none d v:=h.free (fun _ _ _ q=>by subst q;cases hd) (fun _ _ q=>by subst q;cases hd) none
theorem RA.lent{g:Gh}{w:World}{j:Nat}{d:D}{v:Value}(h:RA g w j d v)(hd:lentB d=true):RB g.S g.up w d v:=by
 cases d with
 | ag xs=>
  obtain ⟨us,rfl,u1,u2⟩:=h;refine ⟨us,rfl,u1,fun l x u hx hu=>(u2 l x u hx hu).lent ?_⟩
  have:=List.all_eq_true.1 hd x (List.mem_of_getElem? hx)
  simpa using this
 | un=>simp only [RA] at h;cases h
 | tup _=>simp only [RA] at h;cases h
 | mb _ _=>simp only [RA] at h;cases h
 | bx _ _=>simp only [RA] at h;cases h
 | el _ _ _ _=>simp only [RA] at h;cases h
 | bs _ _ _=>simp only [RA] at h;cases h
 | osl _ _ _=>cases hd
 | opa _ _=>cases hd
 | _=>simp only [RA] at h;exact h.lent rfl
theorem RB.ra{S:Nat->Prop}{up:Nat->Option Pos}{g:Gh}(hS:g.S=S)(hU:g.up=up){w:World}{j:Nat}{d:D}{v:Value}(h:RB S up w d v):RA g w j d v:=by
 subst hS hU;cases d with
 | ag xs=>obtain ⟨us,rfl,u1,u2⟩:=h;exact ⟨us,rfl,u1,fun l x u hx hu=>(u2 l x u hx hu).any _⟩
 | un=>cases h
 | tup _=>cases h
 | mb _ _=>cases h
 | bx _ _=>cases h
 | el _ _ _ _=>cases h
 | bs _ _ _=>cases h
 | _=>exact Rep.any h _
theorem FCon.ofBelow {P:Program} {f:FuncId} {fn:Func} {c:Code} (hf:P.funcs[f]?=some fn) (hname:(fn.name == "runtime.NumGoroutine")=false) (hb:fn.body=some c) {ars:List D} {Rv:Value->Prop} {Rs:D->List D->Prop} (hR:∀ v,Rv v->v.oneCell'=true/\Rs (.s v) []) (hl:ars.all lentB=true)
  (h:∀ (w:World) (S:Nat->Prop) (up:Nat->Option Pos) (vs:List Value),vs.length=ars.length->(∀ (j:Nat) (b:D) (u:Value),ars[j]?=some b->vs[j]?=some u->RB S up w b u)->Calls P f vs.toArray w (fun e w'=>∃ v,e=.returned v/\Rv v/\Below w.heap.size w w')):FCon P f ars Rs:=by
 refine ⟨fun vs w=>?_,fun w g vs hS hu hl' hv=>(h w g.S g.up vs hl' (fun j b u q1 q2=>(hv j b u q1 q2).lent (List.all_eq_true.1 hl b (List.mem_of_getElem? q1)))).mono ?_⟩
 ·have hname':¬ fn.name = "runtime.NumGoroutine" := by simpa using hname
  have hbn:¬ fn.body=none:=by rw [hb];simp
  simp [callFunc,hf,hname',hbn]
 ·rintro e w' ⟨v,rfl,hv,hbel⟩
  obtain ⟨h1,h2⟩:=hR v hv;exact ⟨v,⟨fun _=>none,fun _=>0,fun _=>none,g.S⟩,_,[],rfl,⟨hbel.os,hbel.tape,hbel.output,hbel.size,fun k hk=>by omega⟩,fun b hb' _=>hbel.block b hb',fun _ q=>q,fun _ _ q=>.inl q,fun b q=>Nat.lt_of_lt_of_le (hS b q) hbel.size,fun b p q=>(by cases q),h2,Rep.s h1,fun j d u q=>(by simp at q)⟩
theorem FCon.law{f:FuncId}{ars:List D}(h:FT f ars (fun r _=>r=.s (.bool true)))(w:World)(vs:List Value)(hl:vs.length=ars.length)(hv:∀ (j:Nat) (b:D) (u:Value),ars[j]?=some b->vs[j]?=some u->RB (vP w) upW w b u) :
  Calls Tryz.prog f vs.toArray w fun e w'=>e=.returned (.bool true)/\Below w.heap.size w w':=by
 refine (h.run w ⟨fun _=>none,fun _=>0,upW,vP w⟩ vs (fun _ q=>q) (fun b p q=>(by cases q)) hl (fun j b u q1 q2=>(hv j b u q1 q2).ra rfl rfl)).mono ?_
 rintro e w' ⟨v,g',r,o,rfl,b1,b2,b3,b4,b5,b6,rfl,b7,-⟩
 have b7:Rep g'.S g'.up w' (some (.ans 0 0)) (.s (.bool true)) v:=b7;have:v=.bool true:=Rep.s_inv b7;subst this;exact ⟨rfl,b1.os,b1.tape,b1.output,b1.size,fun k hk=>b2 k hk rfl⟩
theorem one_arg{P:Nat->D->Value->Prop}{b:D}{vs:List Value}(hl:vs.length=[b].length)(h:∀ (j:Nat) (c:D) (u:Value),[b][j]?=some c->vs[j]?=some u->P j c u):∃ v,vs=[v]/\P 0 b v:=by
 match vs,hl with
 | [v],_=>exact ⟨v,rfl,h 0 b v rfl rfl⟩
theorem RepL.nil{S:Nat->Prop}{up:Nat->Option Pos}{W:World}:RepL S up W [] []:=⟨rfl,fun j d u h=>by simp at h⟩
theorem RepL.cons{S:Nat->Prop}{up:Nat->Option Pos}{W:World}{d:D}{u:Value}{ds:List D}{us:List Value}(h:Rep S up W none d u)(t:RepL S up W ds us):RepL S up W (d::ds) (u::us):=⟨by simp [t.1],fun j d' u' h1 h2=>by
 cases j with
 | zero=>simp at h1 h2;subst h1 h2;exact h
 | succ j=>exact t.2 j d' u' (by simpa using h1) (by simpa using h2)⟩
theorem RepL.append{S:Nat->Prop}{up:Nat->Option Pos}{W:World}:∀ {a b:List D} {us vs:List Value},RepL S up W a us->RepL S up W b vs->RepL S up W (a++b) (us++vs)
 | [],b,us,vs,h,t=>by
  have:us=[]:=List.eq_nil_of_length_eq_zero h.1;subst this;exact t
 | d::a,b,[],vs,h,t=>by have:=h.1;simp at this
 | d::a,b,u::us,vs,h,t=>RepL.cons (h.2 0 d u rfl rfl) (RepL.append ⟨by have:=h.1;simpa using this,fun j d' u' h1 h2=>h.2 (j+1) d' u' (by simpa using h1) (by simpa using h2)⟩ t)
def RdE{α:Type}(t:TypeId)(k:Nat)(enc:α->List D)(ok:α->Prop):Prop:=
 Tryz.prog.cellsOf t=k/\∀ (H:Type) (en:TypeId×Value->H) (W:World) (n:Nat) (cs:List Value) (x:DataW H×List MemPlace),Rd en Tryz.prog W n t cs x->∃ a:α,RepL (vP W) upW W (enc a) cs/\ok a
theorem Ze{S:Nat->Prop}{up:Nat->Option Pos}{W:World}{d:D}{v:Value}(h:Rep S up W none d v):RepL S up W [d] [v]:=RepL.cons h (RepL.nil)
theorem RdE.int{t:TypeId}(hu:Tryz.prog.underlying t=some (.int .i64))(hc:Tryz.prog.cellsOf t=1):RdE t 1 (fun n:Int=>[.s (.int .i64 n)]) I64:=by
 refine ⟨hc,fun H en W n cs x h=>?_⟩
 obtain ⟨k0,rfl,-,z0⟩:=DataW.trod_int hu h;exact ⟨k0,Ze (.s rfl),i64_of z0⟩
theorem RdE.string{t:TypeId}(hu:Tryz.prog.underlying t=some .string)(hc:Tryz.prog.cellsOf t=1):RdE t 1 (fun s:ByteArray=>[.s (.string s)]) (fun s=>s.size<=maxLen):=by
 refine ⟨hc,fun H en W n cs x h=>?_⟩
 obtain ⟨k0,rfl,-,z0⟩:=DataW.trod_string hu h;exact ⟨k0,Ze (.s rfl),z0⟩
theorem RdE.bool{t:TypeId}(hu:Tryz.prog.underlying t=some .bool)(hc:Tryz.prog.cellsOf t=1):RdE t 1 (fun b:Bool=>[.s (.bool b)]) (fun _=>True):=by
 refine ⟨hc,fun H en W n cs x h=>?_⟩
 obtain ⟨k0,rfl,-⟩:=DataW.trod_bool hu h;exact ⟨k0,Ze (.s rfl),trivial⟩
theorem RdE.slice{α:Type}{t e:TypeId}{k:Nat}{enc:α->List D}{ok:α->Prop}(hu:Tryz.prog.underlying t=some (.slice e))(hc:Tryz.prog.cellsOf t=1)(hk:0<k)(h:RdE e k enc ok):RdE t 1 (fun xs:List α=>[.sl k (xs.map enc)]) (fun xs=>∀ x∈xs,ok x):=by
 refine ⟨hc,fun H en W n cs x hr=>?_⟩
 obtain ⟨v,xs,rfl,hs⟩:=rd_slice k (fun hh r (x:α)=>hh=hp W/\RepL (vP W) upW W (enc x) r/\ok x) hu h.1 hk (fun n cs' y hy=>by
  obtain ⟨a,h1,h2⟩:=h.2 H en W n cs' y hy;exact ⟨a,rfl,h1,h2⟩) hr
 obtain ⟨h1,h2⟩:=SlOf.rep (enc:=enc) (ok:=ok) (fun r x hr=>hr.2) hs
 exact ⟨xs,Ze h1,h2⟩
inductive PartsL(S:Nat->Prop)(up:Nat->Option Pos)(W:World)(cs:List Value):Nat->List (List D)->Prop where
 | nil {off:Nat}:off=cs.length->PartsL S up W cs off []
 | cons {off k:Nat} {ds:List D} {r:List (List D)}:RepL S up W ds ((cs.drop off).take k)->PartsL S up W cs (off+k) r->off+k<=cs.length->PartsL S up W cs off (ds::r)
theorem PartsL.rep{S:Nat->Prop}{up:Nat->Option Pos}{W:World}{cs:List Value}:∀ {r:List (List D)} {off:Nat},PartsL S up W cs off r->RepL S up W r.flatten (cs.drop off)
 | [],off,.nil h=>by rw [h,List.drop_length];exact RepL.nil
 | ds::r,off,.cons (k:=k) h t hl=>by
  have h2:=h.append t.rep;have:(cs.drop off).take k++cs.drop (off+k)=cs.drop off:=by
   rw [<- List.drop_drop,List.take_append_drop]
  rw [this] at h2
  exact h2
theorem sl_of{P:Program}{W:World}{r:Reach}{b:Nat}{t e:TypeId}{v:Value}(hu:P.underlying t=some (.slice e))(o:Value.okWide P W r b t v):∃ a n c,v=.slice a n c/\v.cells.toList=[v]:=by
 obtain ⟨a,n,c,rfl,_⟩:=okWide_slice hu o;exact ⟨a,n,c,rfl,rfl⟩
theorem agg_of{P:Program}{W:World}{r:Reach}{b:Nat}{t:TypeId}{fs:Array Field}{v:Value}(hu:P.underlying t=some (.struct fs))(o:Value.okWide P W r b t v):∃ cs,v=.agg cs/\v.cells.toList=cs.toList:=by
 obtain ⟨cs,rfl,_⟩:=okWide_struct hu o;exact ⟨cs,rfl,rfl⟩
theorem trod_ex{H:Type}{P:Program}{en:TypeId×Value->H}{w:World}{t:TypeId}{v:Value}{x:DataW H}{pl:List MemPlace}(k:DataW.Trod en P w 0 (fun _=>true) true t v x pl):∃ fuel,Rd en P w fuel t v.cells.toList (x,pl):=k
theorem Rep.rb{S:Nat->Prop}{up:Nat->Option Pos}{W:World}{d:D}{v:Value}(h:Rep S up W none d v):RB S up W d v:=by
 cases d<;>first|exact h|cases h
theorem RdE.sl{α:Type}{t e:TypeId}{d:α->D}{ok:α->Prop}(h:RdE t 1 (fun a=>[d a]) ok)(hu:Tryz.prog.underlying t=some (.slice e)){H:Type}{en:TypeId×Value->H}{w:World}{r:Reach}{b:Nat}{v:Value}{x:DataW H}{pl:List MemPlace}(k:DataW.Trod en Tryz.prog w 0 (fun _=>true) true t v x pl)(o:Value.okWide Tryz.prog w r b t v) :
  ∃ a:α,RB (vP w) upW w (d a) v/\ok a:=by
 obtain ⟨a,n,c,e1,e2⟩:=sl_of hu o;obtain ⟨fuel,hf⟩:=trod_ex k;rw [e2] at hf
 obtain ⟨y,hy,ho⟩:=h.2 _ _ _ _ _ _ hf;exact ⟨y,(hy.2 0 _ _ rfl rfl).rb,ho⟩
theorem RdE.ag{α:Type}{t:TypeId}{n:Nat}{fs:Array Field}{enc:α->List D}{ok:α->Prop}(h:RdE t n enc ok)(hu:Tryz.prog.underlying t=some (.struct fs)){H:Type}{en:TypeId×Value->H}{w:World}{r:Reach}{b:Nat}{v:Value}{x:DataW H}{pl:List MemPlace}(k:DataW.Trod en Tryz.prog w 0 (fun _=>true) true t v x pl)(o:Value.okWide Tryz.prog w r b t v) :
  ∃ a:α,RB (vP w) upW w (.ag (enc a)) v/\ok a:=by
 obtain ⟨cs,e1,e2⟩:=agg_of hu o;obtain ⟨fuel,hf⟩:=trod_ex k;rw [e2] at hf
 subst e1;obtain ⟨y,hy,ho⟩:=h.2 _ _ _ _ _ _ hf;exact ⟨y,⟨cs.toList,by simp,hy⟩,ho⟩
theorem args2{P:D->Value->Prop}{b0 b1:D}{v0 v1:Value}(h0:P b0 v0)(h1:P b1 v1):∀ (j:Nat) (b:D) (u:Value),[b0,b1][j]?=some b->[v0,v1][j]?=some u->P b u
 | 0,_,_,rfl,rfl=>h0
 | 1,_,_,rfl,rfl=>h1
end
section
open Go.RowKit
def St.nilE(σ:St)(id:Nat)(row:List D)(c nm e k:Nat):St:=((σ.sc (pOut [nm]) (pOut [nm])).setB id (.box ((row.map (scC (pOut [nm]))).set c (.bs nm k 0)))).setB nm (.arr e k [])
theorem Rel.nilE{x:Cx}{g:Gh}{σ:St}{a:Act}{w:World}(h:Rel x g σ a w){id c nm:Nat}{row:List D}(e k:Nat)(hb:σ.b id=some (.box row))(hc:row[c]?=some .nil)(hne:nm≠id)(hnP:isP nm=false):∃ g',Rel x g' (σ.nilE id row c nm e k) a w:=by
 let g':Gh:=⟨fun j=>if j=nm then none else g.β j,fun j=>if j=nm then 0 else g.κ j,g.up,g.S⟩
 have ev:Ev (fun p=>p≠.root nm) (fun p=>p) (pOut [nm]) (pOut [nm]) g g' w w:=by
  refine ⟨⟨fun b hb=>⟨hb,rfl⟩,fun b p hp _=>⟨hp,rfl⟩,fun b p o _ _=>⟨by simp,rfl⟩⟩,fun j hj=>?_,fun j hj=>?_⟩
  ·have:=xy hj nm (by simp)
   exact ⟨if_neg this,if_neg this⟩
  ·have:=xy hj nm (by simp)
   exact ⟨hj,fun q=>by injection q with q;exact this q,rfl⟩
 have hR:=h.ev ev (Below.refl _ _) (fun b _ _=>rfl) (fun b _ hs=>.inl hs) h.new h.own
 have hid:pOut [nm] id=true:=by simp [pOut];exact fun q=>hne q.symm
 have hbx:(σ.sc (pOut [nm]) (pOut [nm])).b id=some (.box (row.map (scC (pOut [nm])))):=by
  show (if pOut [nm] id=true then (σ.b id).map (scO (pOut [nm])) else none)=_
  rw [if_pos hid,hb];rfl
 obtain ⟨b,cs,ty,e1,e2,e3,e4,e5⟩:=hR.ob id _ hbx;have hcl:c<row.length:=(List.getElem?_eq_some_iff.1 hc).1;refine ⟨g',(hR.setB (id:=id) (o:=.box ((row.map (scC (pOut [nm]))).set c (.bs nm k 0))) ⟨b,cs,ty,e1,e2,e3,by simpa using e4,fun j d hj=>?_⟩ (fun hp=>hR.par id _ hbx hp)).setB (id:=nm) ?_ (fun hp=>by rw [hnP] at hp;cases hp)⟩
 ·rw [List.getElem?_set] at hj
  split at hj
  ·rename_i q;subst q
   rw [if_pos (by simpa using hcl)] at hj
   injection hj with hj;subst hj
   have h0:=e5 c .nil (by rw [List.getElem?_map,hc];rfl)
   have h0:Rep g'.S g'.up w (some (.cell b c)) .nil (cs.getD c undef):=h0;generalize cs.getD c undef=v at h0
   cases h0;have hβ:g'.β nm=none:=if_pos rfl;have hκ:g'.κ nm=0:=if_pos rfl;exact ⟨by rw [hβ,hκ];rfl,Nat.zero_le _,by rw [hκ];exact Nat.zero_le _,fun _=>hκ⟩
  ·exact e5 j d hj
 ·have hβ:g'.β nm=none:=if_pos rfl
  have hκ:g'.κ nm=0:=if_pos rfl;show Rep g'.S g'.up w (some (.root nm)) (.osl e k []) (.slice ((g'.β nm).map fun b=>⟨b,0,none⟩) 0 (g'.κ nm))
  rw [hβ,hκ];exact .osl0
theorem Wk_nil{M:Md}{N:Nat}{σ:St}(id c nm:Nat){row:List D}(e k:Nat)(hb:σ.b id=some (.box row))(hc:row[c]?=some .nil)(hne:nm≠id)(hnP:isP nm=false):Wk M N σ (σ.nilE id row c nm e k):=fun x g a w _ _ hr=>hr.nilE e k hb hc hne hnP
theorem Yt{M:Md}{N:Nat}{pl:List (Nat×Plan)}{K:Exit->St->Prop}{σ:St}{cd:Code}(id c nm:Nat){row:List D}(e k:Nat)(hb:σ.b id=some (.box row))(hc:row[c]?=some .nil)(hne:nm≠id)(hnP:isP nm=false)(h:AC M N pl cd K (σ.nilE id row c nm e k)):AC M N pl cd K σ:=Wb (Wk_nil id c nm e k hb hc hne hnP) h
theorem nilE_t(σ:St)(id:Nat)(row:List D)(c nm e k j:Nat):(σ.nilE id row c nm e k).t j=scT (pOut [nm]) (σ.t j):=rfl
theorem nilE_b(σ:St)(id:Nat)(row:List D)(c nm e k j:Nat):(σ.nilE id row c nm e k).b j=if j=nm then some (.arr e k []) else if j=id then some (.box ((row.map (scC (pOut [nm]))).set c (.bs nm k 0))) else if pOut [nm] j=true then (σ.b j).map (scO (pOut [nm])) else none:=rfl
attribute [go_sem] nilE_t nilE_b
theorem nil_tup{g:Gh}{w:World}{d d':D}{y:D}{v:Value}(h:∀ u,RN g w 0 d u->RN g w 0 d' u)(hv:RNs g w (.tup [d,y]) v):RNs g w (.tup [d',y]) v:=by
 obtain ⟨us,e,hl,hr⟩:=hv;refine ⟨us,e,hl,fun m x u hx hu=>?_⟩
 match m,hx with
 | 0,hx=>
  have hx:d'=x:=by simpa using hx
  subst hx;exact h u (hr 0 d u rfl hu)
 | 1,hx=>exact hr 1 x u hx hu
 | m+2,hx=>simp at hx
theorem FCon.arg{P:Program}{f:FuncId}{args:List D}{Rs:D->List D->Prop}(h:FCon P f args Rs)(args':List D)(hl:args'.length=args.length)(ha:∀ (j:Nat) (d' d:D),args'[j]?=some d'->args[j]?=some d->∀ (g:Gh) (w:World) (u:Value),RA g w j d' u->RA g w j d u):FCon P f args' Rs:=
 ⟨h.ent,fun w g vs h1 h2 h3 h4=>h.run w g vs h1 h2 (h3.trans hl) fun j d u hd hu=>by
  have hj:j<args'.length:=by rw [hl];exact (List.getElem?_eq_some_iff.1 hd).1
  exact ha j _ d (List.getElem?_eq_getElem hj) hd g w u (h4 j _ u (List.getElem?_eq_getElem hj) hu)⟩
theorem RA_nilS{g:Gh}{w:World}{j k:Nat}{u:Value}(h:RA g w j .nil u):RA g w j (.sl k []) u:=Rep.nil_sl k (show Rep g.S g.up w (some (.par j 0)) .nil u from h)
theorem FCon.tupO{P:Program}{f:FuncId}{args:List D}{e k:Nat}{c:D}(h:FCon P f args (fun r _=>r=.tup [.nil,c])):FCon P f args (fun r _=>r=.tup [.osl e k [],c]):=h.wk fun r o e'=>by
 subst e';exact ⟨_,rfl,fun g w v hv=>nil_tup (d:=.nil) (fun u hu=>Rep.nil_osl _ _ (show Rep g.S g.up w (some (.ans 0 0)) .nil u from hu)) hv⟩
theorem FCon.tupS{P:Program}{f:FuncId}{args:List D}{k:Nat}{c:D}(h:FCon P f args (fun r _=>r=.tup [.nil,c])):FCon P f args (fun r _=>r=.tup [.sl k [],c]):=h.wk fun r o e'=>by
 subst e';exact ⟨_,rfl,fun g w v hv=>nil_tup (d:=.nil) (fun u hu=>Rep.nil_sl _ (show Rep g.S g.up w (some (.ans 0 0)) .nil u from hu)) hv⟩
theorem YH{g:Gh}{w:World}{v:Value}{xs xs':List D}(hl:xs'.length=xs.length)(hc:∀ (m:Nat) (x x':D),xs[m]?=some x->xs'[m]?=some x'->∀ u,RN g w m x u->RN g w m x' u)(h:RNs g w (.tup xs) v):RNs g w (.tup xs') v:=by
 obtain ⟨us,e,h1,h2⟩:=h;refine ⟨us,e,h1.trans hl.symm,fun m x' u hx hu=>?_⟩
 have hm:m<xs.length:=by rw [<- hl];exact (List.getElem?_eq_some_iff.1 hx).1
 have hd:=List.getElem?_eq_getElem hm;exact hc m _ x' hd hx u (h2 m _ u hd hu)
def bs(l:List UInt8):ByteArray:=⟨l.toArray⟩
theorem VJ(l:List UInt8):(bs l).size=l.length:=rfl
def byteV(b:UInt8):Value:=.int .u8 (b.toNat:Int)
theorem xcg(z:Int)(d:UInt8)(hz:Value.int .u8 z=byteV d)(W:World)(b:Nat)(hc:W.cell? ⟨b,0,none⟩=some (.int .u8 z)) :
  (Go.convert 55 9 (.slice (some ⟨b,0,none⟩) 1 1)).run Tryz.prog W=.ok (.string (bs [d])) W:=by
 refine run_convert_bytes_back W 55 9 5 _ _ [d] Tryz.underlying55 Tryz.underlying5 Tryz.underlying9 (fun j hj=>?_)
 obtain rfl:j=0:=by simpa using hj
 rw [Ub];exact hc.trans (congrArg some hz)
end
section
def dgt(d:Nat):UInt8:=UInt8.ofNat (48+d)
theorem dgt_nat{d:Nat}(h:d<10):(dgt d).toNat=48+d:=by
 unfold dgt;rw [UInt8.toNat_ofNat'];omega
def decL(n:Nat):List UInt8:=if n<10 then [dgt n] else decL (n / 10)++[dgt (n % 10)]
theorem Xh{n:Nat}(h:n<10):decL n=[dgt n]:=by rw [decL,if_pos h]
theorem xbc{n:Nat}(h:¬ n<10):decL n=decL (n / 10)++[dgt (n % 10)]:=by rw [decL,if_neg h]
theorem xbd:∀ (k n:Nat),n<10 ^ (k+1)->(decL n).length<=k+1
 | 0,n,h=>by rw [Xh (by simpa using h)];simp
 | k+1,n,h=>by
  by_cases h':n<10
  ·rw [Xh h'];simp
  ·rw [xbc h',List.length_append]
   have:=xbd k (n / 10) (by rw [Nat.pow_succ] at h;omega)
   simp;omega
end
section
open Go.RowKit
theorem dgtV{d:Nat}(h:d<10):Value.int .u8 (48+(d:Int))=byteV (dgt d):=by
 unfold byteV;rw [dgt_nat h];simp
theorem str_app(l m:List UInt8):(bs l++bs m)=bs (l++m):=by
 apply Qs;show ((bs l).append (bs m)).data.toList=_
 simp [bs,ByteArray.append]
end
section
structure TyI where
 v:Int
 name:ByteArray
 ar:Int
def TyI.ok(x:TyI):Prop:=I64 x.v/\x.name.size<=maxLen/\I64 x.ar
def xR(x:TyI):Bool:=
 if x.name.toList.isEmpty then decide (0<=x.v)&&decide (x.v<=9999)&&(x.ar==0)
 else (x.v==0)&&(if x.name.toList==[45,62]||x.name.toList==[42] then x.ar==2 else if x.name.toList==[114,101,102] then x.ar==1 else yn x.name&&decide (0<=x.ar)&&decide (x.ar<=2))
theorem Y0{x:TyI}(h:xR x=true):0<=x.ar/\x.ar<=2:=by
 unfold xR at h
 split at h
 ·simp only [Bool.and_eq_true,decide_eq_true_eq,beq_iff_eq] at h;omega
 ·split at h
  ·simp only [Bool.and_eq_true,decide_eq_true_eq,beq_iff_eq] at h;omega
  ·split at h<;>simp only [Bool.and_eq_true,decide_eq_true_eq,beq_iff_eq] at h<;>omega
def scan:List Nat->Nat->Option Nat
 | _,0=>some 0
 | [],_+1=>none
 | a::l,m+1=>(scan l (m+a)).map (· + 1)
theorem zh(l:List Nat):scan l 0=some 0:=by cases l<;>rfl
theorem scan_le:∀ (l:List Nat) (m k:Nat),scan l m=some k->k<=l.length
 | l,0,k,h=>by rw [zh] at h;cases h;exact Nat.zero_le _
 | [],m+1,k,h=>by cases h
 | a::l,m+1,k,h=>by
  rw [scan] at h
  cases e:scan l (m+a) with
  | none=>rw [e] at h;cases h
  | some j=>
   rw [e] at h
   have:=scan_le l _ _ e;have h2:j+1=k:=by simpa using h
   simp only [List.length_cons];omega
theorem UZ:∀ (l:List Nat) (m n:Nat),scan l (m+n)=(scan l m).bind fun k=>(scan (l.drop k) n).map (· + k)
 | l,0,n=>by rw [zh,Nat.zero_add];simp
 | [],m+1,n=>by rw [show m+1+n=m+n+1 by omega];rfl
 | a::l,m+1,n=>by
  rw [show m+1+n=m+n+1 by omega,scan,scan,show m+n+a=(m+a)+n by omega,UZ l (m+a) n]
  cases scan l (m+a) with
  | none=>rfl
  | some k=>
   simp only [Option.bind_some,Option.map_some,List.drop_succ_cons];cases scan (l.drop k) n with
   | none=>rfl
   | some j=>simp;omega
def arsM(xs:List TyI):List Nat:=xs.map fun x=>x.ar.toNat
def endM(xs:List TyI)(k:Nat):Int:=match scan ((arsM xs).drop k) 1 with
 | some j=>((k+j:Nat):Int)
 | none=>-1
def yf(xs:List TyI)(k i:Nat):Int:=match scan ((arsM xs).drop k) i with
 | some j=>((k+j:Nat):Int)
 | none=>-1
theorem Xi(xs:List TyI)(k:Nat):yf xs k 0=k:=by unfold yf;rw [zh];rfl
theorem ZJ(xs:List TyI)(k:Nat):endM xs k=yf xs k 1:=rfl
theorem Zv(xs:List TyI)(k:Nat)(h:k<xs.length):(arsM xs).drop k=xs[k].ar.toNat::(arsM xs).drop (k+1):=by
 have hl:k<(arsM xs).length:=by unfold arsM;simpa using h
 rw [List.drop_eq_getElem_cons hl]
 congr 1
 exact List.getElem_map _
theorem XZ(xs:List TyI)(k:Nat)(h:k<xs.length):endM xs k=yf xs (k+1) xs[k].ar.toNat:=by
 unfold endM yf;rw [Zv xs k h,scan,Nat.zero_add];cases scan ((arsM xs).drop (k+1)) xs[k].ar.toNat with
 | none=>rfl
 | some j=>simp only [Option.map_some];congr 1;omega
theorem Uu(xs:List TyI)(k:Nat)(h:xs.length<=k):endM xs k = -1:=by
 unfold endM;rw [List.drop_eq_nil_of_le (by unfold arsM;simpa using h)]
 rfl
theorem QI(xs:List TyI)(k i:Nat)(h:yf xs k i<0):∀ j,i<=j->yf xs k j = -1:=by
 intro j hj;unfold yf at h ⊢
 cases e:scan ((arsM xs).drop k) i with
 | some q=>rw [e] at h;simp only at h;omega
 | none=>
  rw [show j=i+(j - i) by omega,UZ,e]
  rfl
theorem Vm(xs:List TyI)(k i:Nat)(n:Nat)(h:yf xs k i=n):yf xs k (i+1)=endM xs n:=by
 unfold yf at h
 cases e:scan ((arsM xs).drop k) i with
 | none=>rw [e] at h;simp only at h;omega
 | some q=>
  rw [e] at h
  simp only at h
  obtain rfl:n=k+q:=by omega
  unfold yf endM;rw [UZ,e,Option.bind_some,List.drop_drop];cases scan ((arsM xs).drop (k+q)) 1 with
  | none=>rfl
  | some j=>simp only [Option.map_some];congr 1;omega
theorem Uw(xs:List TyI)(k i:Nat)(hk:k<=xs.length):yf xs k i = -1\/∃ n:Nat,yf xs k i=n/\k<=n/\n<=xs.length:=by
 unfold yf;cases e:scan ((arsM xs).drop k) i with
 | none=>exact .inl rfl
 | some q=>
  refine .inr ⟨k+q,rfl,by omega,?_⟩
  have:=scan_le _ _ _ e;have hl:((arsM xs).drop k).length=xs.length - k:=by unfold arsM;simp
  omega
def y7(xs:List TyI):Bool:=xs.all xR&&decide (endM xs 0=xs.length)
def wc(xs:List TyI):Bool:=decide (xs.length<=200)&&y7 xs
def ue(xs:List TyI)(k m:Nat):Bool:=(xs.drop k).all xR&&decide (yf xs k m=xs.length)
theorem xcf(xs:List TyI):ue xs 0 1=y7 xs:=by unfold ue y7;rw [ZJ];rfl
theorem xcU(xs:List TyI)(k:Nat)(h:k<xs.length):ue xs k 0=false:=by
 unfold ue;rw [Xi,decide_eq_false (by omega),Bool.and_false]
theorem restM_bad(xs:List TyI)(k m:Nat)(h:k<xs.length)(hb:xR xs[k]=false):ue xs k m=false:=by
 unfold ue;rw [List.drop_eq_getElem_cons h,List.all_cons,hb];rfl
theorem xcT(xs:List TyI)(k m:Nat)(h:k<xs.length)(hb:xR xs[k]=true):ue xs k (m+1)=ue xs (k+1) (m+xs[k].ar.toNat):=by
 unfold ue;rw [List.drop_eq_getElem_cons h,List.all_cons,hb,Bool.true_and]
 congr 1
 have:yf xs k (m+1)=yf xs (k+1) (m+xs[k].ar.toNat):=by
  unfold yf;rw [Zv xs k h,scan];cases scan ((arsM xs).drop (k+1)) (m+xs[k].ar.toNat) with
  | none=>rfl
  | some j=>simp only [Option.map_some];congr 1;omega
 rw [this]
theorem restM_end(xs:List TyI)(k m:Nat)(h:k=xs.length):ue xs k m=decide (m=0):=by
 subst h;unfold ue yf;rw [List.drop_eq_nil_of_le (Nat.le_refl _),List.drop_eq_nil_of_le (by unfold arsM;simp)]
 cases m with
 | zero=>simp [scan]
 | succ m=>simp [scan]
end
section
open Go.RowKit
def Ww(k:Int):List UInt8:=109::decL k.toNat
theorem markT_pos{K:Nat}(l:List UInt8)(h:decL K=l):(⟨#[109]⟩:ByteArray)++bs l=bs (Ww (K:Int)):=by
 unfold Ww;rw [Int.toNat_natCast,h];exact str_app [109] l
def mInv(K n:Nat)(l:List UInt8):Prop:=(0<n->decL K=decL n++l)/\(n=0->decL K=l)/\l.length<=20
theorem mInv_step{K n:Nat}{l:List UInt8}(h:mInv K n l)(h0:0<n)(hK:K<=4611686018427387904):mInv K (n / 10) (dgt (n % 10)::l):=by
 have e:=h.1 h0;have key:decL K=(if 0<n / 10 then decL (n / 10)++(dgt (n % 10)::l) else dgt (n % 10)::l):=by
  by_cases q:0<n / 10
  ·rw [if_pos q,e,xbc (by omega)];simp
  ·rw [if_neg q,e,Xh (by omega),Nat.mod_eq_of_lt (by omega)];simp
 refine ⟨fun q=>by rw [key,if_pos q],fun q=>by rw [key,if_neg (by omega)],?_⟩
 have hl:=xbd 18 K (by omega)
 rw [key] at hl
 split at hl
 ·rw [List.length_append] at hl;omega
 ·omega
theorem xaE(w:World)(k:Int)(hk:k<=4611686018427387904):Calls Tryz.prog 110 #[.int .i64 k] w fun e w'=>e=.returned (.string (bs (Ww k)))/\Below w.heap.size w w':=by
 by_cases h0:k<=0
 ·have e:bs (Ww k)=(⟨#[109,48]⟩:ByteArray):=by
   have:k.toNat=0:=by omega
   unfold Ww;rw [this,Xh (by omega)];rfl
  rw [e]
  go_enter Tryz.func110,Tryz.ntmps110
  go_wp2_with fail
  go_ret
  exact ⟨rfl,(by repeat (first|with_reducible exact Below.refl _ _|with_reducible assumption|with_reducible refine Below.setCell ?_ ?_ _|with_reducible refine Below.alloc ?_ ?_ _|with_reducible refine Below.drew ?_|(with_reducible apply wl;with_reducible assumption)|exact Nat.le_refl _|omega|(simp<;>omega)))⟩
 ·obtain ⟨K,rfl⟩:∃ K:Nat,k=K:=⟨k.toNat,by omega⟩
  go_enter Tryz.func110,Tryz.ntmps110
  go_wp2_with fail
  go_loopw [0,3] (fun kv ov wr=>∃ (n:Nat) (l:List UInt8),n<=K/\kv=.int .i64 n/\ov=.string (bs l)/\mInv K n l/\Below w.heap.size w wr) (fun kv _ _=>(intOf kv).toNat)
  case atStart=>exact ⟨K,[],by omega,rfl,rfl,⟨fun _=>by simp,fun q=>by omega,by simp⟩,Below.refl _ _⟩
  case round=>
   obtain ⟨n,l,hn,rfl,rfl,hinv,hbel⟩:=hrel;have HI:=Lib.hid hinv;have hl:=hinv.2.2;clear hinv
   by_cases hp:0<n
   ·have hp':((n:Nat):Int)>0:=by omega
    have hd:n % 10<10:=Nat.mod_lt _ (by omega)
    have e1:Int.tmod (n:Int) 10=((n % 10:Nat):Int):=by rw [Int.tmod_eq_emod_of_nonneg (by omega)];rfl
    have e2:Int.tdiv (n:Int) 10=((n / 10:Nat):Int):=by rw [Int.tdiv_eq_ediv_of_nonneg (by omega)];rfl
    have hcv:=xcg (48+((n % 10:Nat):Int)) _ (dgtV hd);have e3:IntKind.i64.wrap (48+((n % 10:Nat):Int))=48+((n % 10:Nat):Int):=IntWalk.i64_in _ (by omega)
    have e4:IntKind.u8.wrap (48+((n % 10:Nat):Int))=48+((n % 10:Nat):Int):=IntWalk.u8_in _ (by omega)
    have z1:(bs l).size<=20:=by rw [VJ];exact hl
    have z2:(bs [dgt (n % 10)]).size<=1:=by rw [VJ];simp
    have HS:=Lib.hid (mInv_step HI.out hp (by omega))
    go_wp2_with fail
    go_roundw
    case rel=>exact ⟨n / 10,dgt (n % 10)::l,by omega,congrArg (Value.int .i64) (by omega),by rw [str_app];rfl,HS.out,(by first|exact hbel.alloc hbel.size _|exact hbel)⟩
    case measure=>simp [intOf];omega
   ·have hn0:n=0:=by omega
    have hp':¬ ((n:Nat):Int)>0:=by omega
    have z1:(bs l).size<=20:=by rw [VJ];exact hl
    have HE:=Lib.hid (markT_pos l (HI.out.2.1 hn0));clear hn0
    go_wp2_with fail
    go_ret
    exact ⟨by rw [<- HE.out];rfl,(by repeat (first|with_reducible exact Below.refl _ _|with_reducible assumption|with_reducible refine Below.setCell ?_ ?_ _|with_reducible refine Below.alloc ?_ ?_ _|with_reducible refine Below.drew ?_|(with_reducible apply wl;with_reducible assumption)|exact Nat.le_refl _|omega|(simp<;>omega)))⟩
def mkB(k:Int):ByteArray:=bs (Ww k)
theorem yN(k:Int)(hk:k<=4611686018427387904):FT 110 [.s (.int .i64 k)] (fun r _=>r=.s (.string (mkB k))):=by
 refine FCon.ofBelow (Rv:=fun v=>v=.string (mkB k)) Tryz.func110 rfl rfl ?_ rfl ?_
 ·rintro _ rfl;exact ⟨rfl,rfl⟩
 ·intro w S up vs hl hv
  obtain ⟨v,rfl,h⟩:=one_arg (P:=fun _ d u=>RB S up w d u) hl hv
  have:=Rep.s_inv (show Rep S up w none (.s (.int .i64 k)) v from h);subst this;exact (xaE w k hk).mono fun e w' h=>⟨_,h.1,rfl,h.2⟩
def iE(n:Int):List D:=[.s (.int .i64 n)]
theorem xr(n:Int):iE n=[.s (.int .i64 n)]:=rfl
abbrev xV(l:List Int):D:=.sl 1 (l.map iE)
def zn{α:Type}(f:α->List D)(z:List D)(xs:List α)(i:Nat):List (List D):=(xs.take i).map f++List.replicate (xs.length - i) z
section
variable {α:Type} {f:α->List D} {z:List D} {xs:List α} {i:Nat}
theorem z8:zn f z xs 0=List.replicate xs.length z:=by simp [zn]
theorem wL:zn f z xs xs.length=xs.map f:=by simp [zn]
theorem wO(h:i<=xs.length):(zn f z xs i).length=xs.length:=by simp [zn];omega
theorem wP(h:i<xs.length):(zn f z xs i).set i (f xs[i])=zn f z xs (i+1):=by
 unfold zn;have e:(xs.length - i)=(xs.length - (i+1))+1:=by omega
 rw [List.set_append_right _ _ (by simp;omega),List.length_map,List.length_take,Nat.min_eq_left (by omega),Nat.sub_self,e,List.replicate_succ,List.set_cons_zero,List.take_succ_eq_append_getElem h,List.map_append]
 simp
theorem wM(h:i<xs.length):(zn f z xs i).getD i []=z:=by
 unfold zn;rw [List.getD_eq_getElem?_getD,List.getElem?_append_right (by simp;omega)]
 have e:(xs.length - i)=(xs.length - (i+1))+1:=by omega
 simp [Nat.min_eq_left (Nat.le_of_lt h),e,List.replicate_succ]
theorem x9{g:α->List D}(h:∀ x,frzL (f x)=g x)(xs:List α):xu (xs.map f)=xs.map g:=by
 rw [xI,List.map_map];exact List.map_congr_left fun x _=>h x
end
theorem takeL{α:Type}{l:List α}{i:Nat}(h:l.length=i):l.take i=l:=List.take_of_length_le (by omega)
theorem frzLL_app(a b:List (List D)):xu (a++b)=xu a++xu b:=by rw [xI,xI,xI,List.map_append]
theorem frzLL_nil:xu []=[]:=rfl
theorem xcH(r:List D)(l:List (List D)):xu (r::l)=frzL r::xu l:=rfl
def smS{α:Type}(s:α->Prop)(xs:List α):Prop:=xs.length<=1048576/\∀ x∈xs,s x
theorem xq{a b:Int}(h:a=b):D.s (.int .i64 a)=.s (.int .i64 b):=by rw [h]
def cnts{α:Type}(c:α->Nat):List α->Nat
 | []=>0
 | x::l=>c x+cnts c l
def marks{α:Type}(c:α->Nat)(m:Int->α->α):Int->List α->List α
 | _,[]=>[]
 | k,x::l=>m k x::marks c m (k+c x) l
section
variable {α:Type} {c:α->Nat} {m:Int->α->α}
theorem xk:∀ (k:Int) (xs:List α),(marks c m k xs).length=xs.length
 | _,[]=>rfl
 | k,x::l=>by simp [marks,xk (k+c x) l]
theorem Xe{n:Nat}(hc:∀ x,c x=n):∀ (xs:List α),cnts c xs=n*xs.length
 | []=>rfl
 | x::l=>by rw [cnts,hc,Xe hc l,List.length_cons,Nat.mul_add];omega
theorem Us:∀ (a b:List α),cnts c (a++b)=cnts c a+cnts c b
 | [],b=>by simp [cnts]
 | x::l,b=>by simp [cnts,Us l b];omega
theorem zt{xs:List α}{i:Nat}(h:i<xs.length):cnts c (xs.take (i+1))=cnts c (xs.take i)+c xs[i]:=by
 rw [List.take_succ_eq_append_getElem h,Us];simp [cnts]
theorem uE(xs:List α)(i:Nat):cnts c (xs.take i)<=cnts c xs:=by
 have:=Us (c:=c) (xs.take i) (xs.drop i);rw [List.take_append_drop] at this;omega
theorem ZX:∀ (k:Int) (a b:List α),marks c m k (a++b)=marks c m k a++marks c m (k+cnts c a) b
 | k,[],b=>by simp [marks,cnts]
 | k,x::l,b=>by
  have e:k+(c x:Int)+(cnts c l:Int)=k+((c x+cnts c l:Nat):Int):=by push_cast;omega
  simp [marks,cnts,ZX (k+c x) l b,Int.add_assoc]
def stM(c:α->Nat)(m:Int->α->α)(k:Int)(xs:List α)(i:Nat):List α:=marks c m k (xs.take i)++xs.drop i
theorem ux(k:Int)(xs:List α):stM c m k xs 0=xs:=by simp [stM,marks]
theorem vz(k:Int)(xs:List α):stM c m k xs xs.length=marks c m k xs:=by simp [stM]
theorem vB(k:Int){xs:List α}{i:Nat}(h:i<=xs.length):(stM c m k xs i).length=xs.length:=by simp [stM,xk];omega
theorem vA(k:Int){xs:List α}{i:Nat}(h:i<xs.length)(f:α->List D):((stM c m k xs i).map f).getD i []=f xs[i]:=by
 rw [List.getD_eq_getElem?_getD,List.getElem?_map,stM,List.getElem?_append_right (by simp [xk];omega)]
 have e:i - (marks c m k (xs.take i)).length=0:=by simp [xk];omega
 rw [e,List.drop_eq_getElem_cons h];rfl
theorem uP(k:Int){xs:List α}{i:Nat}(h:i<xs.length)(f:α->List D):((stM c m k xs i).map f).set i (f (m (k+cnts c (xs.take i)) xs[i]))=(stM c m k xs (i+1)).map f:=by
 rw [<- List.map_set]
 congr 1
 unfold stM;have hl:(marks c m k (xs.take i)).length=i:=by simp [xk];omega
 rw [List.set_append_right _ _ (by omega),hl,Nat.sub_self,List.drop_eq_getElem_cons h,List.set_cons_zero,List.take_succ_eq_append_getElem h,ZX,List.append_assoc]
 rfl
theorem marks_get(k:Int){xs:List α}{i:Nat}(h:i<xs.length)(f:α->List D):((marks c m k xs).map f).getD i []=f (m (k+cnts c (xs.take i)) xs[i]):=by
 have e:=uP (c:=c) (m:=m) k h f;have hs:marks c m k xs=stM c m k xs (i+1)++[]\/True:=.inr trivial;have:marks c m k xs=marks c m k (xs.take i)++marks c m (k+cnts c (xs.take i)) (xs.drop i):=by rw [<- ZX,List.take_append_drop]
 rw [this,List.getD_eq_getElem?_getD,List.getElem?_map,List.getElem?_append_right (by simp [xk];omega)]
 have e:i - (marks c m k (xs.take i)).length=0:=by simp [xk];omega
 rw [e,List.drop_eq_getElem_cons h];rfl
end
attribute [go_sem] takeL frzLL_app frzLL_nil xcH Nat.le_refl
end
section
attribute [local go_sem] List.length_set List.set_set
open Go.RowKit Go.ChangeShapes Go.WideShapes
theorem iE_frz(x:Int):frzL (iE x)=iE x:=rfl
theorem VV(x:Int):∀ d∈iE x,Pure d:=by
 simp only [xr,List.forall_mem_cons,List.not_mem_nil,false_imp_iff,implies_true,and_true];exact .s _
theorem iE_pureS(e k:Nat)(xs:List Int):Pure (.osl e k (xs.map iE))=True:=eq_true (xP VV e k xs)
attribute [go_sem] iE_pureS
theorem iE_frzS(xs:List Int):xu (xs.map iE)=xs.map iE:=x9 iE_frz xs
attribute [go_sem] iE_frzS
theorem xa3(xs:List Int)(hs:smS (fun _:Int=>True) xs):FT 135 [.sl 1 (xs.map iE)] (fun r _=>r=.osl 3 1 (xs.map iE)):=by
 have hl:=hs.1;refine FI PM Tryz.func135 Tryz.ntmps135 [] rfl rfl ?_
 (have hWf:=f0;repeat' (first|refine zS ?_|refine zI ?_ ?_|exact zF0|refine zD fun hb=>?_|exact zC|refine zT ?_|fail))
 refine xd (fun n σ=>∃ k:Nat,k<=xs.length/\n=xs.length - k/\σ.t 0=.sl 1 (xs.map iE)/\σ.t 3=.bs 7 1 xs.length/\σ.t 4=.s (.int .i64 k)/\σ.b 7=some (.arr 3 1 (zn iE [.s (.int .i64 0)] xs k))) xs.length ⟨0,by omega,by omega,?_⟩ ?_
 ·simp only [go_sem,simprocAttr,z8,Int.natCast_zero]
 ·rintro n σ ⟨k,hk,rfl,h0,h3,h4,h7⟩ K' hK
  by_cases hlt:k<xs.length
  ·have hx:=xb iE xs k hlt
   have he:=xr xs[k];have hpl:=wO (f:=iE) (z:=[.s (.int .i64 0)]) (Nat.le_of_lt hlt);have hg:=wM (f:=iE) (z:=[.s (.int .i64 0)]) hlt;have hst:=wP (f:=iE) (z:=[.s (.int .i64 0)]) hlt;rw [xr] at hst
   (have hWf:=w10 @h0 @h3 @h4 @h7 @hx @he @xr @hpl @hg @hst;repeat' (first|refine zS ?_|refine zI ?_ ?_|exact zF0|refine zD fun hb=>?_|exact zC|refine zT ?_|fail))
   refine hK (xs.length - (k+1)) _ (by omega) ⟨k+1,by omega,rfl,?_⟩
   simp only [go_sem,simprocAttr,h0,h3,h4,h7,Int.natCast_succ]
  ·obtain rfl:k=xs.length:=by omega
   rw [wL] at h7
   (have hWf:=w4 @h0 @h3 @h4 @h7;repeat' (first|refine zS ?_|refine zI ?_ ?_|exact zF0|refine zD fun hb=>?_|exact zC|refine zT ?_|fail))
theorem Ug(xs:List Int):FT 25 [.sl 1 (xs.map iE),.sl 1 (xs.map iE)] (fun r _=>r=.s (.bool true)):=by
 refine FI PM Tryz.func25 Tryz.ntmps25 [(6,8,[],[],(lin [] [0,1,2,3,4,5,6,7]))] rfl rfl ?_;refine yr 0 rfl trivial fun hlen=>?_
 simp only [List.length_map] at hlen
 (have hWf:=f0;repeat' (first|refine zS ?_|refine zI ?_ ?_|exact zF0|refine zD fun hb=>?_|exact zC|refine zT ?_|fail))
 refine xd (fun n σ=>∃ k:Nat,k<=xs.length/\n=xs.length - k/\σ.t 0=.sl 1 (xs.map iE)/\σ.t 1=.sl 1 (xs.map iE)/\σ.t 5=.s (.int .i64 k)) xs.length ⟨0,by omega,by omega,?_⟩ ?_
 ·simp only [go_sem,simprocAttr,Int.natCast_zero]
 ·rintro n σ ⟨k,hk,rfl,h0,h1,h5⟩ K' hK
  by_cases hlt:k<xs.length
  ·have hx:=xb iE xs k hlt
   have he:=xr xs[k]
   (have hWf:=w5 @h0 @h1 @h5 @hx @he;repeat' (first|refine zS ?_|refine zI ?_ ?_|exact zF0|refine zD fun hb=>?_|exact zC|refine zT ?_|fail))
   all_goals
    refine hK (xs.length - (k+1)) _ (by omega) ⟨k+1,by omega,rfl,?_⟩
    simp only [go_sem,simprocAttr,h0,h1,h5,Int.natCast_succ]
  ·(have hWf:=w3 @h0 @h1 @h5;repeat' (first|refine zS ?_|refine zI ?_ ?_|exact zF0|refine zD fun hb=>?_|exact zC|refine zT ?_|fail))
theorem uX(xs:List Int)(hl:xs.length<=1048576)(k:Int)(h0:0<=k)(hk:k+cnts (fun _:Int=>1) xs<=4611686018427387904):FT 26 [.osl 3 1 (xs.map iE),.s (.int .i64 k)] (fun r o=>r=.s (.int .i64 (k+cnts (fun _:Int=>1) xs))/\o=[.osl 3 1 ((marks (fun _:Int=>1) (fun k _=>k) k xs).map iE),.un]):=by
 refine FI PM Tryz.func26 Tryz.ntmps26 [] rfl rfl ?_
 (have hWf:=f0;repeat' (first|refine zS ?_|refine zI ?_ ?_|exact zF0|refine zD fun hb=>?_|exact zC|refine zT ?_|fail))
 refine xd (fun n σ=>∃ i:Nat,i<=xs.length/\n=xs.length - i/\σ.t 0=.bs 900000 1 xs.length/\σ.t 1=.s (.int .i64 (k+cnts (fun _:Int=>1) (xs.take i)))/\σ.t 5=.s (.int .i64 i)/\σ.b 900000=some (.arr 3 1 ((stM (fun _:Int=>1) (fun k _=>k) k xs i).map iE))) xs.length ⟨0,by omega,by omega,?_⟩ ?_
 ·simp only [go_sem,simprocAttr,Int.natCast_zero,ux,List.take_zero,cnts,Int.add_zero]
 ·rintro n σ ⟨i,hi,rfl,h0,h1,h5,h9⟩ K' hK
  by_cases hlt:i<xs.length
  ·have hc:=zt (c:=(fun _:Int=>1)) hlt
   have hc':=uE (c:=(fun _:Int=>1)) xs (i+1)
   have hx:=vA (c:=(fun _:Int=>1)) (m:=(fun k _=>k)) k hlt iE
   have hpl:=vB (c:=(fun _:Int=>1)) (m:=(fun k _=>k)) k (Nat.le_of_lt hlt)
   have hst:=uP (c:=(fun _:Int=>1)) (m:=(fun k _=>k)) k hlt iE
   have hgs:∀ r,(((stM (fun _:Int=>1) (fun k _=>k) k xs i).map iE).set i r).getD i []=r:=fun r=>by rw [List.getD_eq_getElem?_getD,List.getElem?_set_self (by rw [List.length_map,hpl];exact hlt)];rfl
   simp only [xr] at hx hst
   (have hWf:=w9 @h0 @h1 @h5 @h9 @hx @hpl @hgs @hst @xr;repeat' (first|refine zS ?_|refine zI ?_ ?_|exact zF0|refine zD fun hb=>?_|exact zC|refine zT ?_|fail))
   refine hK (xs.length - (i+1)) _ (by omega) ⟨i+1,by omega,rfl,?_⟩
   simp only [go_sem,simprocAttr,h0,h1,h5,h9,Int.natCast_succ,hst];exact xq (by rw [hc];push_cast;omega)
  ·obtain rfl:i=xs.length:=by omega
   rw [vz] at h9
   rw [List.take_length] at h1
   (have hWf:=w5 @h0 @h1 @h5 @h9 @xk;repeat' (first|refine zS ?_|refine zI ?_ ?_|exact zF0|refine zD fun hb=>?_|exact zC|refine zT ?_|fail))
theorem xcq(xs:List Int)(hl:xs.length<=1048576)(k:Int)(h0:0<=k)(hk:k+cnts (fun _:Int=>1) xs<=4611686018427387904):FT 27 [.sl 1 ((marks (fun _:Int=>1) (fun k _=>k) k xs).map iE),.s (.int .i64 k)] (fun r _=>r=.s (.int .i64 (k+cnts (fun _:Int=>1) xs))):=by
 refine FI PM Tryz.func27 Tryz.ntmps27 [] rfl rfl ?_;have hml:=xk (c:=(fun _:Int=>1)) (m:=(fun k _=>k)) k xs
 (have hWf:=f0;repeat' (first|refine zS ?_|refine zI ?_ ?_|exact zF0|refine zD fun hb=>?_|exact zC|refine zT ?_|fail))
 refine xd (fun n σ=>∃ i:Nat,i<=xs.length/\n=xs.length - i/\σ.t 0=.sl 1 ((marks (fun _:Int=>1) (fun k _=>k) k xs).map iE)/\σ.t 1=.s (.int .i64 (k+cnts (fun _:Int=>1) (xs.take i)))/\σ.t 5=.s (.int .i64 i)) xs.length ⟨0,by omega,by omega,?_⟩ ?_
 ·simp only [go_sem,simprocAttr,Int.natCast_zero,List.take_zero,cnts,Int.add_zero]
 ·rintro n σ ⟨i,hi,rfl,h0,h1,h5⟩ K' hK
  by_cases hlt:i<xs.length
  ·have hc:=zt (c:=(fun _:Int=>1)) hlt
   have hc':=uE (c:=(fun _:Int=>1)) xs (i+1)
   have hx:=marks_get (c:=(fun _:Int=>1)) (m:=(fun k _=>k)) k hlt iE
   simp only [xr] at hx
   (have hWf:=w5 @h0 @h1 @h5 @hx @hml;repeat' (first|refine zS ?_|refine zI ?_ ?_|exact zF0|refine zD fun hb=>?_|exact zC|refine zT ?_|fail))
   all_goals
    refine hK (xs.length - (i+1)) _ (by omega) ⟨i+1,by omega,rfl,?_⟩
    simp only [go_sem,simprocAttr,h0,h1,h5,Int.natCast_succ];exact xq (by rw [hc];push_cast;omega)
  ·obtain rfl:i=xs.length:=by omega
   rw [List.take_length] at h1
   (have hWf:=w4 @h0 @h1 @h5 @hml;repeat' (first|refine zS ?_|refine zI ?_ ?_|exact zF0|refine zD fun hb=>?_|exact zC|refine zT ?_|fail))
end
section
attribute [local go_sem] List.length_set List.set_set
open Go.RowKit Go.ChangeShapes Go.WideShapes
def TyI.enc(x:TyI):List D:=[.s (.int .i64 x.v),.s (.string x.name),.s (.int .i64 x.ar)]
theorem TyI.enc_eq(x:TyI):x.enc=[.s (.int .i64 x.v),.s (.string x.name),.s (.int .i64 x.ar)]:=rfl
abbrev TyI.own(x:TyI):List D:=x.enc
theorem TyI.own_eq(x:TyI):x.own=[.s (.int .i64 x.v),.s (.string x.name),.s (.int .i64 x.ar)]:=rfl
theorem TyI.frz_eq(x:TyI):frzL x.own=x.enc:=by
 simp only [TyI.own_eq,TyI.enc_eq,frzL,frz]
def TyI.sm(x:TyI):Prop:=x.name.size<=1048576
def TyI.cnt(x:TyI):Nat:=3
def TyI.mark(k:Int)(x:TyI):TyI:=⟨k,mkB (k+1),((k+1)+1)⟩
theorem TyI.cnt_eq(x:TyI):x.cnt=3:=rfl
theorem TyI.pure(x:TyI):∀ d∈x.own,Pure d:=by
 simp only [TyI.own_eq,List.forall_mem_cons,List.not_mem_nil,false_imp_iff,implies_true,and_true];exact ⟨.s _,.s _,.s _⟩
theorem TyI.pureS(e k:Nat)(xs:List TyI):Pure (.osl e k (xs.map TyI.own))=True:=eq_true (xP TyI.pure e k xs)
attribute [go_sem] TyI.pureS
theorem TyI.frzS(xs:List TyI):xu (xs.map TyI.own)=xs.map TyI.enc:=x9 TyI.frz_eq xs
attribute [go_sem] TyI.frzS
theorem Vh(x:TyI)(hs:x.sm):FT 258 [.ag x.enc] (fun r _=>r=.ag x.own):=by
 refine FI PM Tryz.func258 Tryz.ntmps258 [] rfl rfl ?_
 (have hWf:=w2 @TyI.enc_eq @TyI.own_eq;repeat' (first|refine zS ?_|refine zI ?_ ?_|exact zF0|refine zD fun hb=>?_|exact zC|refine zT ?_|fail))
theorem xb6(xs:List TyI)(hs:smS TyI.sm xs):FT 243 [.sl 3 (xs.map TyI.enc)] (fun r _=>r=.osl 143 3 (xs.map TyI.own)):=by
 have hl:=hs.1;refine FI PM Tryz.func243 Tryz.ntmps243 [] rfl rfl ?_
 (have hWf:=f0;repeat' (first|refine zS ?_|refine zI ?_ ?_|exact zF0|refine zD fun hb=>?_|exact zC|refine zT ?_|fail))
 refine xd (fun n σ=>∃ k:Nat,k<=xs.length/\n=xs.length - k/\σ.t 0=.sl 3 (xs.map TyI.enc)/\σ.t 3=.bs 7 3 xs.length/\σ.t 4=.s (.int .i64 k)/\σ.b 7=some (.arr 143 3 (zn TyI.own [.s (.int .i64 0),.s (.string ⟨#[]⟩),.s (.int .i64 0)] xs k))) xs.length ⟨0,by omega,by omega,?_⟩ ?_
 ·simp only [go_sem,simprocAttr,z8,Int.natCast_zero]
 ·rintro n σ ⟨k,hk,rfl,h0,h3,h4,h7⟩ K' hK
  by_cases hlt:k<xs.length
  ·have hx:=xb TyI.enc xs k hlt
   have he:=TyI.enc_eq xs[k];have hpl:=wO (f:=TyI.own) (z:=[.s (.int .i64 0),.s (.string ⟨#[]⟩),.s (.int .i64 0)]) (Nat.le_of_lt hlt);have hg:=wM (f:=TyI.own) (z:=[.s (.int .i64 0),.s (.string ⟨#[]⟩),.s (.int .i64 0)]) hlt;have hst:=wP (f:=TyI.own) (z:=[.s (.int .i64 0),.s (.string ⟨#[]⟩),.s (.int .i64 0)]) hlt;rw [TyI.own_eq] at hst
   (have hWf:=w10 @h0 @h3 @h4 @h7 @hx @he @TyI.own_eq @hpl @hg @hst;repeat' (first|refine zS ?_|refine zI ?_ ?_|((with_reducible apply xc);refine zG (Vh xs[k] (hs.2 _ (List.getElem_mem hlt))) ?_)|((with_reducible apply xf);refine xe (Vh xs[k] (hs.2 _ (List.getElem_mem hlt))) ?_)|exact zF0|refine zD fun hb=>?_|exact zC|refine zT ?_|fail))
   refine hK (xs.length - (k+1)) _ (by omega) ⟨k+1,by omega,rfl,?_⟩
   simp only [go_sem,simprocAttr,h0,h3,h4,h7,Int.natCast_succ]
  ·obtain rfl:k=xs.length:=by omega
   rw [wL] at h7
   (have hWf:=w4 @h0 @h3 @h4 @h7;repeat' (first|refine zS ?_|refine zI ?_ ?_|exact zF0|refine zD fun hb=>?_|exact zC|refine zT ?_|fail))
theorem xco(x:TyI):FT 106 [.ag x.enc,.ag x.enc] (fun r _=>r=.s (.bool true)):=by
 refine FI PM Tryz.func106 Tryz.ntmps106 [] rfl rfl ?_
 (have hWf:=w1 @TyI.enc_eq;repeat' (first|refine zS ?_|refine zI ?_ ?_|exact zF0|refine zD fun hb=>?_|exact zC|refine zT ?_|fail))
theorem xbZ(xs:List TyI):FT 51 [.sl 3 (xs.map TyI.enc),.sl 3 (xs.map TyI.enc)] (fun r _=>r=.s (.bool true)):=by
 refine FI PM Tryz.func51 Tryz.ntmps51 [(6,8,[],[],(lin [] [0,1,2,3,4,5,6,7]))] rfl rfl ?_;refine yr 0 rfl trivial fun hlen=>?_
 simp only [List.length_map] at hlen
 (have hWf:=f0;repeat' (first|refine zS ?_|refine zI ?_ ?_|exact zF0|refine zD fun hb=>?_|exact zC|refine zT ?_|fail))
 refine xd (fun n σ=>∃ k:Nat,k<=xs.length/\n=xs.length - k/\σ.t 0=.sl 3 (xs.map TyI.enc)/\σ.t 1=.sl 3 (xs.map TyI.enc)/\σ.t 5=.s (.int .i64 k)) xs.length ⟨0,by omega,by omega,?_⟩ ?_
 ·simp only [go_sem,simprocAttr,Int.natCast_zero]
 ·rintro n σ ⟨k,hk,rfl,h0,h1,h5⟩ K' hK
  by_cases hlt:k<xs.length
  ·have hx:=xb TyI.enc xs k hlt
   have he:=TyI.enc_eq xs[k]
   (have hWf:=w5 @h0 @h1 @h5 @hx @he;repeat' (first|refine zS ?_|refine zI ?_ ?_|refine zK (xco xs[k]) ?_|exact zF0|refine zD fun hb=>?_|exact zC|refine zT ?_|fail))
   all_goals
    refine hK (xs.length - (k+1)) _ (by omega) ⟨k+1,by omega,rfl,?_⟩
    simp only [go_sem,simprocAttr,h0,h1,h5,Int.natCast_succ]
  ·(have hWf:=w3 @h0 @h1 @h5;repeat' (first|refine zS ?_|refine zI ?_ ?_|exact zF0|refine zD fun hb=>?_|exact zC|refine zT ?_|fail))
theorem Zn(xs:List TyI)(hl:xs.length<=1048576)(k:Int)(h0:0<=k)(hk:k+cnts TyI.cnt xs<=4611686018427387904):FT 58 [.osl 143 3 (xs.map TyI.own),.s (.int .i64 k)] (fun r o=>r=.s (.int .i64 (k+cnts TyI.cnt xs))/\o=[.osl 143 3 ((marks TyI.cnt TyI.mark k xs).map TyI.own),.un]):=by
 refine FI PM Tryz.func58 Tryz.ntmps58 [] rfl rfl ?_
 (have hWf:=f0;repeat' (first|refine zS ?_|refine zI ?_ ?_|exact zF0|refine zD fun hb=>?_|exact zC|refine zT ?_|fail))
 refine xd (fun n σ=>∃ i:Nat,i<=xs.length/\n=xs.length - i/\σ.t 0=.bs 900000 3 xs.length/\σ.t 1=.s (.int .i64 (k+cnts TyI.cnt (xs.take i)))/\σ.t 5=.s (.int .i64 i)/\σ.b 900000=some (.arr 143 3 ((stM TyI.cnt TyI.mark k xs i).map TyI.own))) xs.length ⟨0,by omega,by omega,?_⟩ ?_
 ·simp only [go_sem,simprocAttr,Int.natCast_zero,ux,List.take_zero,cnts,Int.add_zero]
 ·rintro n σ ⟨i,hi,rfl,h0,h1,h5,h9⟩ K' hK
  by_cases hlt:i<xs.length
  ·have hc:=zt (c:=TyI.cnt) hlt
   have hc':=uE (c:=TyI.cnt) xs (i+1);have hx:=vA (c:=TyI.cnt) (m:=TyI.mark) k hlt TyI.own;have hpl:=vB (c:=TyI.cnt) (m:=TyI.mark) k (Nat.le_of_lt hlt);have hst:=uP (c:=TyI.cnt) (m:=TyI.mark) k hlt TyI.own;have hgs:∀ r,(((stM TyI.cnt TyI.mark k xs i).map TyI.own).set i r).getD i []=r:=fun r=>by rw [List.getD_eq_getElem?_getD,List.getElem?_set_self (by rw [List.length_map,hpl];exact hlt)];rfl
   simp only [TyI.own_eq,TyI.mark] at hx hst
   simp only [TyI.cnt] at hc
   (have hWf:=w9 @h0 @h1 @h5 @h9 @hx @hpl @hgs @hst @TyI.own_eq;repeat' (first|refine zS ?_|refine zI ?_ ?_|((with_reducible apply xc);refine zG (yN ((k+(cnts TyI.cnt (xs.take i):Nat))+1) (by omega)) ?_)|((with_reducible apply xf);refine xe (yN ((k+(cnts TyI.cnt (xs.take i):Nat))+1) (by omega)) ?_)|exact zF0|refine zD fun hb=>?_|exact zC|refine zT ?_|fail))
   refine hK (xs.length - (i+1)) _ (by omega) ⟨i+1,by omega,rfl,?_⟩
   simp only [go_sem,simprocAttr,h0,h1,h5,h9,Int.natCast_succ,hst];exact xq (by rw [hc];push_cast;omega)
  ·obtain rfl:i=xs.length:=by omega
   rw [vz] at h9
   rw [List.take_length] at h1
   (have hWf:=w5 @h0 @h1 @h5 @h9 @xk;repeat' (first|refine zS ?_|refine zI ?_ ?_|exact zF0|refine zD fun hb=>?_|exact zC|refine zT ?_|fail))
end
section
open Go.RowKit Go.ChangeShapes Go.WideShapes
structure MTy where
 items:List TyI
def MTy.enc(x:MTy):List D:=[.sl 3 (x.items.map TyI.enc)]
theorem MTy.enc_eq(x:MTy):x.enc=[.sl 3 (x.items.map TyI.enc)]:=rfl
def MTy.own(x:MTy):List D:=[.osl 143 3 (x.items.map TyI.own)]
theorem MTy.own_eq(x:MTy):x.own=[.osl 143 3 (x.items.map TyI.own)]:=rfl
def MTy.ok(x:MTy):Prop:=(∀ y∈x.items,y.ok)
def MTy.sm(x:MTy):Prop:=smS TyI.sm x.items
theorem c_toTy(x:MTy)(hs:x.sm):FT 223 [.ag x.enc] (fun r _=>r=.ag x.own):=by
 refine FI PM Tryz.func223 Tryz.ntmps223 [] rfl rfl ?_
 (have hWf:=w2 @MTy.enc_eq @MTy.own_eq;repeat' (first|refine zS ?_|refine zI ?_ ?_|refine zK (xb6 x.items (hs)) ?_|exact zF0|refine zD fun hb=>?_|exact zC|refine zT ?_|fail))
theorem c_eqTy(x:MTy):FT 14 [.ag x.enc,.ag x.enc] (fun r _=>r=.s (.bool true)):=by
 refine FI PM Tryz.func14 Tryz.ntmps14 [] rfl rfl ?_
 (have hWf:=w1 @MTy.enc_eq;repeat' (first|refine zS ?_|refine zI ?_ ?_|refine zK (xbZ x.items) ?_|exact zF0|refine zD fun hb=>?_|exact zC|refine zT ?_|fail))
end
section
open Go.RowKit
theorem xae(xs:List D):Pure (.tup xs)=∀ d∈xs,Pure d:=propext ⟨fun h d hd=>by
 obtain ⟨j,hj⟩:=List.mem_iff_getElem?.1 hd;cases h with
 | tup h=>exact h j d hj,fun h=>.tup fun j d hj=>h d (List.mem_of_getElem? hj)⟩
theorem sB{a b:Bool}(h:a=b):D.s (.bool a)=.s (.bool b):=by rw [h]
theorem FCon.ofStr {f:FuncId} {fn:Func} {c:Code} (hf:Tryz.prog.funcs[f]?=some fn) (hname:(fn.name == "runtime.NumGoroutine")=false) (hb:fn.body=some c) (s:ByteArray) (b:Bool) (h:∀ w,Calls Tryz.prog f #[.string s] w fun e w'=>e=.returned (.bool b)/\Below w.heap.size w w'):FT f [.s (.string s)] (fun r _=>r=.s (.bool b)):=by
 refine FCon.ofBelow (Rv:=fun v=>v=.bool b) hf hname hb ?_ rfl ?_
 ·rintro _ rfl;exact ⟨rfl,rfl⟩
 ·intro w S up vs hl hv
  obtain ⟨v,rfl,h'⟩:=one_arg (P:=fun _ d u=>RB S up w d u) hl hv
  have:=Rep.s_inv (show Rep S up w none (.s (.string s)) v from h');subst this;exact (h w).mono fun e w' h=>⟨_,h.1,rfl,h.2⟩
theorem wB(s:ByteArray)(hs:s.size<=maxLen):FT 139 [.s (.string s)] (fun r _=>r=.s (.bool (yn s))):=FCon.ofStr Tryz.func139 rfl rfl s _ fun w=>xca w s hs
theorem xJ(s:ByteArray)(hs:s.size<=maxLen):FT 125 [.s (.string s)] (fun r _=>r=.s (.bool (yn s))):=FCon.ofStr Tryz.func125 rfl rfl s _ fun w=>xci w s hs
theorem yy(n lo hi:Int):FT 94 [.s (.int .i64 n),.s (.int .i64 lo),.s (.int .i64 hi)] (fun r _=>r=.s (.bool (decide (lo<=n)&&decide (n<=hi)))):=by
 refine FI PM Tryz.func94 Tryz.ntmps94 [] rfl rfl ?_
 (have hWf:=f0;repeat' (first|refine zS ?_|refine zI ?_ ?_|exact zF0|refine zD fun hb=>?_|exact zC|refine zT ?_|fail))
 all_goals exact sB (by simp_all)
theorem wm(s:ByteArray)(hs:s.size<=maxLen):FT 189 [.s (.string s)] (fun r _=>r=.s (.bool (conM s.data.toList))):=FCon.ofStr Tryz.func189 rfl rfl s _ fun w=>(xcK w s hs).mono fun e w' ⟨q1,q2⟩=>⟨q1,q2 ▸ Below.refl _ _⟩
theorem vI(s:ByteArray)(hs:s.size<=maxLen):FT 175 [.s (.string s)] (fun r _=>r=.s (.bool (conM s.data.toList))):=FCon.ofStr Tryz.func175 rfl rfl s _ fun w=>(xc3 w s hs).mono fun e w' ⟨q1,q2⟩=>⟨q1,q2 ▸ Below.refl _ _⟩
theorem lit0:(⟨#[]⟩:ByteArray).toList=[]:=by kernel_rfl
end
section
def fidx{α:Type}(p:α->Bool):List α->Int
 | []=>-1
 | x::l=>if p x=true then 0 else if fidx p l<0 then -1 else fidx p l+1
theorem fidx_ge{α:Type}(p:α->Bool):∀ (l:List α),-1<=fidx p l
 | []=>by simp [fidx]
 | x::l=>by
  have:=fidx_ge p l;rw [fidx];split<;>(try split)<;>omega
theorem uF{α:Type}(p:α->Bool):∀ (l:List α) (k:Nat) (h:k<l.length),(∀ x∈l.take k,p x=false)->p l[k]=true->fidx p l=k
 | x::l,0,_,_,hp=>by
  have hp:p x=true:=hp;rw [fidx,if_pos hp];rfl
 | x::l,k+1,h,hn,hp=>by
  rw [fidx,if_neg (by rw [hn x (by simp)];simp),uF p l k (by simpa using h) (fun y hy=>hn y (by simp [hy])) (by simpa using hp)]
  rw [if_neg (by omega)];omega
theorem uG{α:Type}(p:α->Bool):∀ (l:List α),(∀ x∈l,p x=false)->fidx p l = -1
 | [],_=>rfl
 | x::l,h=>by rw [fidx,if_neg (by rw [h x (by simp)];simp),uG p l (fun y hy=>h y (by simp [hy]))];rfl
theorem uv{α:Type}(p:α->Bool):∀ (l:List α),decide (fidx p l ≥ 0)=l.any p
 | []=>rfl
 | x::l=>by
  rw [fidx,List.any_cons,<- uv p l]
  by_cases h:p x=true
  ·rw [if_pos h,h];rfl
  ·rw [if_neg h]
   have:p x=false:=by simpa using h
   rw [this,Bool.false_or];have:=fidx_ge p l
   by_cases q:fidx p l<0
   ·rw [if_pos q,decide_eq_false (by omega),decide_eq_false (by omega)]
   ·rw [if_neg q,decide_eq_true (by omega),decide_eq_true (by omega)]
theorem uf{α:Type}{p:α->Bool}{xs:List α}{k:Nat}(h:k<xs.length)(hno:∀ x∈xs.take k,p x=false)(hk:p xs[k]=false):∀ x∈xs.take (k+1),p x=false:=by
 intro x hx;rw [List.take_succ_eq_append_getElem h] at hx
 rcases List.mem_append.1 hx with hx|hx
 ·exact hno x hx
 ·simp at hx;rw [hx];exact hk
end
section
open Go.RowKit
def stE(p:ByteArray):List D:=[.s (.string p)]
theorem stE_eq(p:ByteArray):stE p=[.s (.string p)]:=rfl
theorem xbY(xs:List ByteArray)(v:ByteArray):FT 142 [.sl 1 (xs.map stE),.s (.string v)] (fun r _=>r=.s (.int .i64 (yQ v xs))):=by
 refine FI PM Tryz.func142 Tryz.ntmps142 [] rfl rfl ?_;refine yr 0 rfl trivial fun hlen=>?_
 simp only [List.length_map] at hlen
 (have hWf:=f0;repeat' (first|refine zS ?_|refine zI ?_ ?_|exact zF0|refine zD fun hb=>?_|exact zC|refine zT ?_|fail))
 refine xd (fun n σ=>∃ k:Nat,k<=xs.length/\n=xs.length - k/\σ.t 0=.sl 1 (xs.map stE)/\σ.t 1=.s (.string v)/\σ.t 7=.s (.int .i64 xs.length)/\σ.t 8=.s (.int .i64 k)/\∀ j,j<k->xs[j]?≠some v) xs.length ⟨0,by omega,by omega,?_⟩ ?_
 ·simp only [go_sem,simprocAttr,Int.natCast_zero]
  all_goals simp
 ·rintro n σ ⟨k,hk,rfl,h0,h1,h7,h8,hno⟩ K' hK
  by_cases hlt:k<xs.length
  ·have hx:=xb stE xs k hlt
   have he:=stE_eq xs[k]
   by_cases hp:v=xs[k]
   ·have hp':=XN hp
    have hv:=Uy hlt hno (by rw [List.getElem?_eq_getElem hlt,<- hp])
    (have hWf:=w7 @h0 @h1 @h7 @h8 @hx @he @hp';repeat' (first|refine zS ?_|refine zI ?_ ?_|exact zF0|refine zD fun hb=>?_|exact zC|refine zT ?_|fail))
    exact xq hv.symm
   ·have hp':=v5 hp
    (have hWf:=w7 @h0 @h1 @h7 @h8 @hx @he @hp';repeat' (first|refine zS ?_|refine zI ?_ ?_|exact zF0|refine zD fun hb=>?_|exact zC|refine zT ?_|fail))
    refine hK (xs.length - (k+1)) _ (by omega) ⟨k+1,by omega,rfl,?_⟩
    simp only [go_sem,simprocAttr,h0,h1,h7,Int.natCast_succ];intro j hj;rcases Nat.lt_or_eq_of_le (Nat.le_of_lt_succ hj) with q|q
    ·exact hno j q
    ·subst q;rw [List.getElem?_eq_getElem hlt];exact fun e=>hp (Option.some.inj e).symm
  ·obtain rfl:k=xs.length:=by omega
   (have hWf:=w4 @h0 @h1 @h7 @h8;repeat' (first|refine zS ?_|refine zI ?_ ?_|exact zF0|refine zD fun hb=>?_|exact zC|refine zT ?_|fail))
   exact xq (YZ hno).symm
theorem yL(xs:List ByteArray)(v:ByteArray):FT 89 [.sl 1 (xs.map stE),.s (.string v)] (fun r _=>r=.s (.bool (inL v xs))):=by
 refine FI PM Tryz.func89 Tryz.ntmps89 [] rfl rfl ?_
 (have hWf:=f0;repeat' (first|refine zS ?_|refine zI ?_ ?_|refine zK (xbY xs v) ?_|exact zF0|refine zD fun hb=>?_|exact zC|refine zT ?_|fail))
 exact sB (QW v xs)
theorem zo(xs:List ByteArray):xu (xs.map stE)=xs.map stE:=x9 (fun _=>rfl) xs
theorem toL_inj{a b:ByteArray}(h:a.toList=b.toList):a=b:=by
 rw [ByteArray.toList_eq,ByteArray.toList_eq] at h
 cases a;cases b
 simpa using h
theorem yZ{α:Type}{p:α->Bool}{l:List α}{k:Nat}(h:k<l.length)(hp:p l[k]=false):l.all p=false:=by
 rw [List.all_eq_false];exact ⟨l[k],List.getElem_mem h,by rw [hp];simp⟩
theorem x8{α:Type}{p:α->Bool}{l:List α}(h:∀ x∈l.take l.length,p x=true):l.all p=true:=List.all_eq_true.2 (by simpa using h)
theorem xS{α:Type}{p:α->Prop}{l:List α}{k:Nat}(h:k<l.length)(h1:∀ x∈l.take k,p x)(h2:p l[k]):∀ x∈l.take (k+1),p x:=by
 intro x hx;rw [List.take_succ_eq_append_getElem h] at hx
 rcases List.mem_append.1 hx with hx|hx
 ·exact h1 x hx
 ·simp at hx;rw [hx];exact h2
def primL:List (List UInt8):=[[43],[45],[42],[47],[37],[94],[61],[60,62],[60],[60,61]]
def Zc(s:ByteArray):Bool:=primL.any fun l=>s.toList==l
def yG:List ByteArray:=primL.map fun l=>⟨l.toArray⟩
theorem primM_in(s:ByteArray):inL s yG=Zc s:=by
 rw [Bool.eq_iff_iff,uI];unfold Zc yG;simp only [List.mem_map,List.any_eq_true,beq_iff_eq]
 constructor
 ·rintro ⟨l,hl,rfl⟩
  exact ⟨l,hl,by rw [ByteArray.toList_eq]⟩
 ·rintro ⟨l,hl,e⟩
  exact ⟨l,hl,toL_inj (by rw [ByteArray.toList_eq,e])⟩
theorem uC:FT 225 [] (fun r _=>r=.osl 9 1 (yG.map stE)):=by
 refine FI PM Tryz.func225 Tryz.ntmps225 [] rfl rfl ?_
 (have hWf:=f0;repeat' (first|refine zS ?_|refine zI ?_ ?_|exact zF0|refine zD fun hb=>?_|exact zC|refine zT ?_|fail))
 rfl
theorem Xq(s:ByteArray):FT 89 [.sl 1 (yG.map stE),.s (.string s)] (fun r _=>r=.s (.bool (Zc s))):=by
 rw [<- primM_in];exact yL yG s
theorem uB(s:ByteArray):FT 177 [.s (.string s)] (fun r _=>r=.s (.bool (Zc s))):=by
 have hpm:Zc s=yG.any fun x=>s.toList==x.toList:=by
  unfold Zc yG;rw [List.any_map]
  congr 1
  funext l
  show _=(s.toList==(⟨l.toArray⟩:ByteArray).toList);rw [ByteArray.toList_eq (bs:=⟨l.toArray⟩)]
 rw [hpm];have hpl:yG.length=10:=rfl;refine FI PM Tryz.func177 Tryz.ntmps177 [] rfl rfl ?_
 (have hWf:=f0;repeat' (first|refine zS ?_|refine zI ?_ ?_|exact zF0|refine zD fun hb=>?_|exact zC|refine zT ?_|fail))
 refine xd (fun n σ=>∃ k:Nat,k<=yG.length/\n=yG.length - k/\σ.t 0=.s (.string s)/\σ.t 5=.bs 5 1 yG.length/\σ.b 5=some (.arr 9 1 (yG.map stE))/\σ.t 6=.s (.int .i64 yG.length)/\σ.t 7=.s (.int .i64 k)/\∀ x∈yG.take k,(s.toList==x.toList)=false) yG.length ⟨0,by omega,by omega,?_⟩ ?_
 ·simp only [go_sem,simprocAttr]
  exact ⟨by rw [hpl],rfl,by rw [hpl];rfl⟩
 ·rintro n σ ⟨k,hk,rfl,h0,h5,hb5,h6,h7,hno⟩ K' hK
  by_cases hlt:k<yG.length
  ·have hx:=xb stE yG k hlt
   have he:=stE_eq yG[k];cases hq:(s.toList==yG[k].toList) with
   | true=>
    (have hWf:=w8 @h0 @h5 @hb5 @h6 @h7 @hx @he @hq;repeat' (first|refine zS ?_|refine zI ?_ ?_|exact zF0|refine zD fun hb=>?_|exact zC|refine zT ?_|fail))
    exact sB (List.any_eq_true.2 ⟨yG[k],List.getElem_mem hlt,hq⟩).symm
   | false=>
    (have hWf:=w8 @h0 @h5 @hb5 @h6 @h7 @hx @he @hq;repeat' (first|refine zS ?_|refine zI ?_ ?_|exact zF0|refine zD fun hb=>?_|exact zC|refine zT ?_|fail))
    refine hK (yG.length - (k+1)) _ (by omega) ⟨k+1,by omega,rfl,?_⟩
    simp only [go_sem,simprocAttr,h0,h5,hb5,h6,Int.natCast_succ];exact xS hlt hno hq
  ·obtain rfl:k=yG.length:=by omega
   (have hWf:=w5 @h0 @h5 @hb5 @h6 @h7;repeat' (first|refine zS ?_|refine zI ?_ ?_|exact zF0|refine zD fun hb=>?_|exact zC|refine zT ?_|fail))
   exact sB (List.any_eq_false.2 (fun x hx=>by have:=hno x (by simpa using hx);rw [this];simp)).symm
theorem lit3:(⟨#[114,101,102]⟩:ByteArray).toList=[114,101,102]:=by kernel_rfl
theorem lit2:(⟨#[45,62]⟩:ByteArray).toList=[45,62]:=by kernel_rfl
theorem lit1:(⟨#[42]⟩:ByteArray).toList=[42]:=by kernel_rfl
theorem c_tyName(x:TyI)(hx:x.ok)(h0:0<=x.ar)(h1:x.ar<=2)(h2:x.v=0)(h3:x.name.toList.isEmpty=false):FT 259 [.ag x.enc] (fun r _=>r=.s (.bool (xR x))):=by
 refine FI PM Tryz.func259 Tryz.ntmps259 [] rfl rfl ?_
 (have hWf:=w4 @TyI.enc_eq @lit1 @lit2 @lit3;repeat' (first|refine zS ?_|refine zI ?_ ?_|((with_reducible apply xc);refine zG (wB _ hx.2.1) ?_)|((with_reducible apply xf);refine xe (wB _ hx.2.1) ?_)|exact zF0|refine zD fun hb=>?_|exact zC|refine zT ?_|fail))
 all_goals exact sB (by unfold xR;simp_all)
theorem Qw(x:TyI)(hx:x.ok):FT 221 [.ag x.enc] (fun r _=>r=.s (.bool (xR x))):=by
 refine FI PM Tryz.func221 Tryz.ntmps221 [] rfl rfl ?_
 (have hWf:=w5 @TyI.enc_eq @lit0 @lit1 @lit2 @lit3;repeat' (first|refine zS ?_|refine zI ?_ ?_|((with_reducible apply xc);refine zG (xJ _ hx.2.1) ?_)|((with_reducible apply xf);refine xe (xJ _ hx.2.1) ?_)|exact zF0|refine zD fun hb=>?_|exact zC|refine zT ?_|fail))
 all_goals exact sB (by unfold xR;simp_all;try omega)
theorem decLe{a b:Nat}:decide ((a:Int)<=(b:Int))=decide (a<=b):=by rw [Bool.eq_iff_iff];simp
theorem decLe200{a:Nat}:decide ((a:Int)<=200)=decide (a<=200):=decLe (b:=200)
theorem xaw{l:List UInt8}(h:l.isEmpty=false):(l==[])=false:=by cases l<;>simp_all
theorem c_tyOk(xs:List TyI)(ho:∀ x∈xs,x.ok)(hl:xs.length<=1048576):FT 244 [.sl 3 (xs.map TyI.enc)] (fun r _=>r=.s (.bool (y7 xs))):=by
 refine FI PM Tryz.func244 Tryz.ntmps244 [] rfl rfl ?_
 (have hWf:=f0;repeat' (first|refine zS ?_|refine zI ?_ ?_|exact zF0|refine zD fun hb=>?_|exact zC|refine zT ?_|fail))
 refine xd (fun n σ=>∃ k m:Nat,k<=xs.length/\n=xs.length - k/\σ.t 3=.s (.int .i64 m)/\σ.t 6=.sl 3 (xs.map TyI.enc)/\σ.t 7=.s (.int .i64 xs.length)/\σ.t 8=.s (.int .i64 k)/\m<=1+2*k/\ue xs k m=y7 xs) xs.length ⟨0,1,by omega,by omega,?_⟩ ?_
 ·simp only [go_sem,simprocAttr,Int.natCast_zero,Int.natCast_one,xcf]
 ·rintro n σ ⟨k,m,hk,rfl,h3,h6,h7,h8,hm,hr⟩ K' hK
  by_cases hlt:k<xs.length
  ·have hx:=xb TyI.enc xs k hlt
   have he:=TyI.enc_eq xs[k];have hox:=ho _ (List.getElem_mem hlt);rcases Nat.eq_zero_or_pos m with rfl|hm0
   ·(have hWf:=w7 @h3 @h6 @h7 @h8 @hx @he @Int.natCast_zero;repeat' (first|refine zS ?_|refine zI ?_ ?_|exact zF0|refine zD fun hb=>?_|exact zC|refine zT ?_|fail))
    exact sB (by rw [<- hr,xcU xs k hlt])
   ·obtain ⟨m,rfl⟩:∃ j,m=j+1:=⟨m - 1,by omega⟩
    have hm1:(((m+1:Nat):Int)==0)=false:=by simp;omega
    have hbad:xR xs[k]=false->false=y7 xs:=fun h=>by rw [<- hr,restM_bad xs k _ hlt h]
    have hgood:xR xs[k]=true->ue xs (k+1) (m+xs[k].ar.toNat)=y7 xs:=fun h=>by rw [<- hr,xcT xs k m hlt h]
    clear hr
    by_cases hn:xs[k].name.toList.isEmpty
    ·have hI:xR xs[k]=(decide (0<=xs[k].v)&&decide (xs[k].v<=9999)&&(xs[k].ar==0)):=by unfold xR;rw [if_pos hn]
     have hn':xs[k].name.toList=[]:=by simpa using hn
     (have hWf:=w9 @h3 @h6 @h7 @h8 @hx @he @hm1 @lit0 @hn';repeat' (first|refine zS ?_|refine zI ?_ ?_|refine zK (yy xs[k].v 0 9999) ?_|exact zF0|refine zD fun hb=>?_|exact zC|refine zT ?_|fail))
     ·exact sB (hbad (by rw [hI];simp at hb ⊢;omega))
     ·have hit:xR xs[k]=true:=by rw [hI];simp at hb ⊢;omega
      have ha:xs[k].ar=0:=by rw [hI] at hit;simp at hit;omega
      refine hK (xs.length - (k+1)) _ (by omega) ⟨k+1,m,by omega,rfl,?_⟩
      simp only [go_sem,simprocAttr,h3,h6,h7,h8,Int.natCast_succ];exact ⟨xq (by omega),by omega,by simpa [ha] using hgood hit⟩
    ·have hn':xs[k].name.toList.isEmpty=false:=by simpa using hn
     have hn2:=xaw hn'
     by_cases hv:xs[k].v=0
     ·have hv':(xs[k].v != 0)=false:=by simp [hv]
      by_cases ha:0<=xs[k].ar/\xs[k].ar<=2
      ·have ha1:decide (0<=xs[k].ar)=true:=decide_eq_true ha.1
       have ha2:decide (xs[k].ar<=2)=true:=decide_eq_true ha.2
       (have hWf:=w10 @h3 @h6 @h7 @h8 @hx @he @hm1 @lit0 @hn2 (ai @hv'<|ai @ha1<|@ha2);repeat' (first|refine zS ?_|refine zI ?_ ?_|refine zK (yy xs[k].ar 0 2) ?_|refine zK (c_tyName xs[k] hox ha.1 ha.2 hv hn') ?_|exact zF0|refine zD fun hb=>?_|exact zC|refine zT ?_|fail))
       ·exact sB (hbad (by simpa using hb))
       ·refine hK (xs.length - (k+1)) _ (by omega) ⟨k+1,m+xs[k].ar.toNat,by omega,rfl,?_⟩
        simp only [go_sem,simprocAttr,h3,h6,h7,h8,Int.natCast_succ];exact ⟨xq (by push_cast;omega),by omega,hgood (by simpa using hb)⟩
      ·have ha':(decide (0<=xs[k].ar)&&decide (xs[k].ar<=2))=false:=by simp;omega
       (have hWf:=w10 @h3 @h6 @h7 @h8 @hx @he @hm1 @lit0 @hn2 (ai @hv'<|@ha');repeat' (first|refine zS ?_|refine zI ?_ ?_|refine zK (yy xs[k].ar 0 2) ?_|exact zF0|refine zD fun hb=>?_|exact zC|refine zT ?_|fail))
       all_goals exact sB (hbad (by cases hI:xR xs[k] with|false=>rfl|true=>exact absurd (Y0 hI) ha))
     ·have hv':(xs[k].v != 0)=true:=by simp [hv]
      (have hWf:=w10 @h3 @h6 @h7 @h8 @hx @he @hm1 @lit0 @hn2 @hv';repeat' (first|refine zS ?_|refine zI ?_ ?_|refine zK (yy xs[k].ar 0 2) ?_|exact zF0|refine zD fun hb=>?_|exact zC|refine zT ?_|fail))
      all_goals exact sB (hbad (by unfold xR;simp [hn',hv]))
  ·obtain rfl:k=xs.length:=by omega
   (have hWf:=w4 @h3 @h6 @h7 @h8;repeat' (first|refine zS ?_|refine zI ?_ ?_|exact zF0|refine zD fun hb=>?_|exact zC|refine zT ?_|fail))
   refine sB ?_;rw [<- hr,restM_end xs _ m rfl,Bool.eq_iff_iff,beq_iff_eq,decide_eq_true_eq];omega
theorem yM(xs:List TyI)(ho:∀ x∈xs,x.ok)(hl:xs.length<=1048576):FT 226 [.ag [.sl 3 (xs.map TyI.enc)]] (fun r _=>r=.s (.bool (wc xs))):=by
 refine FI PM Tryz.func226 Tryz.ntmps226 [] rfl rfl ?_
 (have hWf:=f0;repeat' (first|refine zS ?_|refine zI ?_ ?_|refine zK (c_tyOk xs ho hl) ?_|exact zF0|refine zD fun hb=>?_|exact zC|refine zT ?_|fail))
 all_goals exact sB (by unfold wc;rw [decLe200])
theorem xbn{xs:List TyI}(h:xs.all xR=true):∀ x∈xs,0<=x.ar/\x.ar<=2:=fun x hx=>Y0 (List.all_eq_true.1 h x hx)
theorem vp:∀ (n:Nat) (xs:List TyI) (hit:∀ x∈xs,0<=x.ar/\x.ar<=2) (hl:xs.length<=1048576) (k:Nat),xs.length - k<=n->FT 133 [.ag [.sl 3 (xs.map TyI.enc)],.s (.int .i64 k)] (fun r _=>r=.s (.int .i64 (endM xs k)))
 | n,xs,hit,hl,k,hn=>by
  by_cases hk:k<xs.length
  ·have hx:=xb TyI.enc xs k hk
   have he:=TyI.enc_eq xs[k];have hxi:=hit _ (List.getElem_mem hk);have hb0:decide ((k:Int)<0)=false:=by simp
   have hb1:decide ((k:Int) ≥ xs.length)=false:=by simp;omega
   obtain ⟨n,rfl⟩:∃ j,n=j+1:=⟨n - 1,by omega⟩
   have ih:=vp n xs hit hl;refine FI PM Tryz.func133 Tryz.ntmps133 [] rfl rfl ?_
   (have hWf:=w2 @hb0 @hb1;repeat' (first|refine zS ?_|refine zI ?_ ?_|exact zF0|refine zD fun hb=>?_|exact zC|refine zT ?_|fail))
   refine xd (fun n' σ=>∃ i:Nat,(i:Int)<=xs[k].ar/\n'=xs[k].ar.toNat - i/\σ.t 1=.s (.int .i64 k)/\σ.t 2=.bx 2 0/\σ.b 2=some (.box [.sl 3 (xs.map TyI.enc)])/\σ.t 5=.s (.int .i64 (yf xs (k+1) i))/\σ.t 6=.s (.int .i64 i)) xs[k].ar.toNat ⟨0,by omega,by omega,?_⟩ ?_
   ·simp only [go_sem,simprocAttr,Int.natCast_zero,Xi,Int.natCast_succ]
   ·rintro n' σ ⟨i,hi,rfl,h1,h2,h9,h5,h6⟩ K' hK
    have hbd:=Uw xs (k+1) i (by omega)
    by_cases hlt:(i:Int)<xs[k].ar
    ·rcases hbd with hneg|⟨m,hm,hm1,hm2⟩
     ·rw [hneg] at h5
      (have hWf:=w7 @h1 @h2 @h9 @h5 @h6 @hx @he;repeat' (first|refine zS ?_|refine zI ?_ ?_|exact zF0|refine zD fun hb=>?_|exact zC|refine zT ?_|fail))
      exact xq (by rw [XZ xs k hk,QI xs (k+1) i (by omega) _ (by omega)])
     ·rw [hm] at h5
      have hsc:=Vm xs (k+1) i m hm
      (have hWf:=w7 @h1 @h2 @h9 @h5 @h6 @hx @he;repeat' (first|refine zS ?_|refine zI ?_ ?_|((with_reducible apply xc);refine zG (ih m (by omega)) ?_)|refine zU (ih m (by omega)) ?_|exact zF0|refine zD fun hb=>?_|exact zC|refine zT ?_|fail))
      refine hK (xs[k].ar.toNat - (i+1)) _ (by omega) ⟨i+1,by omega,rfl,?_⟩
      simp only [go_sem,simprocAttr,h1,h2,h9,h5,h6,Int.natCast_succ,hsc]
    ·(have hWf:=w7 @h1 @h2 @h9 @h5 @h6 @hx @he;repeat' (first|refine zS ?_|refine zI ?_ ?_|exact zF0|refine zD fun hb=>?_|exact zC|refine zT ?_|fail))
     exact xq (by rw [XZ xs k hk];congr 1;omega)
  ·refine FI PM Tryz.func133 Tryz.ntmps133 [] rfl rfl ?_
   (have hWf:=f0;repeat' (first|refine zS ?_|refine zI ?_ ?_|exact zF0|refine zD fun hb=>?_|exact zC|refine zT ?_|fail))
   exact xq (Uu xs k (by omega)).symm
theorem all_false{xs:List TyI}{k:Nat}(h:k<xs.length)(hb:xR xs[k]=false):wc xs=false:=by
 unfold wc y7;have:xs.all xR=false:=List.all_eq_false.2 ⟨xs[k],List.getElem_mem h,by simp [hb]⟩
 rw [this];simp
theorem xav{xs:List TyI}{k:Nat}(h:k<xs.length)(ha:(xs.take k).all xR=true)(hb:xR xs[k]=true):(xs.take (k+1)).all xR=true:=by
 rw [List.take_succ_eq_append_getElem h,List.all_append,ha,List.all_cons,hb];rfl
theorem Vg(xs:List TyI)(ho:∀ x∈xs,x.ok)(hl:xs.length<=1048576):FT 176 [.ag [.sl 3 (xs.map TyI.enc)]] (fun r _=>r=.s (.bool (wc xs))):=by
 by_cases h2:xs.length<=200
 ·have h2':wc xs=y7 xs:=by unfold wc;rw [decide_eq_true h2];rfl
  refine FI PM Tryz.func176 Tryz.ntmps176 [(9,5,[],[],(lin [] [0,1,2,3,4]))] rfl rfl ?_
  (have hWf:=f0;repeat' (first|refine zS ?_|refine zI ?_ ?_|exact zF0|refine zD fun hb=>?_|exact zC|refine zT ?_|fail))
  refine xd (fun n σ=>∃ k:Nat,k<=xs.length/\n=xs.length - k/\σ.t 1=.bx 1 0/\σ.b 1=some (.box [.sl 3 (xs.map TyI.enc)])/\σ.t 10=.sl 3 (xs.map TyI.enc)/\σ.t 11=.s (.int .i64 xs.length)/\σ.t 12=.s (.int .i64 k)/\(xs.take k).all xR=true) xs.length ⟨0,by omega,by omega,?_⟩ ?_
  ·simp only [go_sem,simprocAttr,Int.natCast_zero,List.take_zero,List.all_nil]
  ·rintro n σ ⟨k,hk,rfl,h1,h9,h10,h11,h12,ha⟩ K' hK
   by_cases hlt:k<xs.length
   ·have hx:=xb TyI.enc xs k hlt
    have he:=TyI.enc_eq xs[k]
    (have hWf:=w7 @h1 @h9 @h10 @h11 @h12 @hx @he;repeat' (first|refine zS ?_|refine zI ?_ ?_|((with_reducible apply xc);refine zG (Qw xs[k] (ho _ (List.getElem_mem hlt))) ?_)|((with_reducible apply xf);refine xe (Qw xs[k] (ho _ (List.getElem_mem hlt))) ?_)|exact zF0|refine zD fun hb=>?_|exact zC|refine zT ?_|fail))
    ·exact sB (all_false hlt hb).symm
    ·refine hK (xs.length - (k+1)) _ (by omega) ⟨k+1,by omega,rfl,?_⟩
     simp only [go_sem,simprocAttr,h1,h9,h10,h11,h12,Int.natCast_succ];exact xav hlt ha hb
   ·obtain rfl:k=xs.length:=by omega
    rw [List.take_length] at ha
    (have hWf:=w5 @h1 @h9 @h10 @h11 @h12;repeat' (first|refine zS ?_|refine zI ?_ ?_|((with_reducible apply xc);refine zG (vp xs.length xs (xbn ha) hl 0 (by omega)) ?_)|refine zU (vp xs.length xs (xbn ha) hl 0 (by omega)) ?_|exact zF0|refine zD fun hb=>?_|exact zC|refine zT ?_|fail))
    refine sB ?_;rw [h2',y7,ha,Bool.true_and,Bool.eq_iff_iff]
    simp
 ·refine FI PM Tryz.func176 Tryz.ntmps176 [(9,5,[],[],(lin [] [0,1,2,3,4]))] rfl rfl ?_
  (have hWf:=f0;repeat' (first|refine zS ?_|refine zI ?_ ?_|exact zF0|refine zD fun hb=>?_|exact zC|refine zT ?_|fail))
  exact sB (by unfold wc;rw [decide_eq_false h2];rfl)
end
end Go.Proofs.YtmnokalddmlogaaGreat
