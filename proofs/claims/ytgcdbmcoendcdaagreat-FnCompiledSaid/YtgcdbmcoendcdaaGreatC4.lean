/- Parts of the proof. -/
import Derived.Test.YtgcdbmcoendcdaaGreatC3
set_option maxRecDepth 100000
set_option maxHeartbeats 8000000
set_option linter.unusedVariables false
set_option linter.unusedSimpArgs false
namespace Go.Proofs.YtgcdbmcoendcdaaGreat
section
open Go.RowKit
def aRv(P:Program)(σ:St):ResultVar->Option (Prop×D)
 | .tmp t=>some (oblT (σ.t t),xL (σ.t t))
 | .cell t ty=>match XE P σ ty (xL (σ.t t)) with
  | some (ob,y)=>some (oblT (σ.t t)/\ob,y)
  | none=>none
def aRvs(P:Program)(σ:St):List ResultVar->Option (Prop×List D)
 | []=>some (True,[])
 | r::l=>match aRv P σ r,aRvs P σ l with
  | some (ob,y),some (ob',ys)=>some (ob/\ob',y::ys)
  | _,_=>none
def mkRes:List D->D
 | [y]=>y
 | ys=>.tup ys
def rvS(tmps:Array Value):ResultVar->Sem Value
 | .tmp t=>pure (tmps.getD t undef)
 | .cell p t=>do loadVar t (<- asAddr (tmps.getD p undef))
theorem xcb(fn:Func)(tmps:Array Value):results fn tmps=(do let vs <- fn.results.mapM (rvS tmps);pure (if h:vs.size=1 then vs[0] else .tuple vs)):=by
 unfold results
 congr 1
theorem aRv_ok{x:Cx}{g:Gh}{σ:St}{a:Act}{w:World}(hr:Rel x g σ a w){rv:ResultVar}{ob:Prop}{y:D}(h:aRv x.P σ rv=some (ob,y))(ho:ob) :
  ∃ v,(rvS a.tmps rv).run x.P w=.ok v w/\RE g w y v:=by
 unfold aRv at h
 split at h
 .rename_i t
  injection h with h;injection h with e1 e2
  subst e1 e2;exact ⟨_,rfl,wK (hr.tm t) ho⟩
 .rename_i t ty
  split at h
  .rename_i ob' y' h'
   injection h with h;injection h with e1 e2
   subst e1 e2;have hb:=wK (hr.tm t) ho.1;obtain ⟨r,r1,r2⟩:=QM h' ho.2 hr hb;refine ⟨r,?_,r2⟩;have hp:∃ ad,a.tmps.getD t undef=.pointer (some ad):=by
    generalize a.tmps.getD t undef=v at hb
    unfold XE at h'
    split at h'
    .rename_i row hrow
     rw [hrow] at hb
     obtain ⟨b,o,rfl⟩:=Rep.pt_shape (show Rep g.S g.up w none (.pt row) v from hb);exact ⟨_,rfl⟩
    .rename_i id off hrow
     rw [hrow] at hb
     obtain ⟨b,-,rfl⟩:=hb;exact ⟨_,rfl⟩
    .rename_i id k i off hrow
     rw [hrow] at hb
     obtain ⟨b,-,rfl⟩:=hb;exact ⟨_,rfl⟩
    .cases h'
   obtain ⟨ad,had⟩:=hp;rw [had] at r1
   simp only [rvS,had,asAddr,Sem.run_bind,Sem.run_pure,Result.andThen_ok]
   simpa [Instr.loadAt,Instr.sureAddr] using r1
  .cases h
theorem aRvs_ok{x:Cx}{g:Gh}{σ:St}{a:Act}{w:World}(hr:Rel x g σ a w):∀ (l:List ResultVar) (ob:Prop) (ys:List D),aRvs x.P σ l=some (ob,ys)->ob ->
  ∃ vs:List Value,(l.mapM (rvS a.tmps):Sem (List Value)).run x.P w=.ok vs w/\vs.length=ys.length/\∀ (j:Nat) (y:D) (u:Value),ys[j]?=some y->vs[j]?=some u->RE g w y u
 | [],ob,ys,h,ho=>by
  injection h with h;injection h with e1 e2
  subst e2;exact ⟨[],rfl,rfl,fun j y u q=>by simp at q⟩
 | r::l,ob,ys,h,ho=>by
  unfold aRvs at h
  split at h
  .rename_i ob1 y1 ob2 ys2 h1 h2
   injection h with h;injection h with e1 e2
   subst e1 e2;obtain ⟨v,v1,v2⟩:=aRv_ok hr h1 ho.1;obtain ⟨vs,w1,w2,w3⟩:=aRvs_ok hr l _ _ h2 ho.2;refine ⟨v::vs,?_,by simp [w2],fun j y u q r=>?_⟩
   .rw [List.mapM_cons,Sem.run_bind,v1]
    simp only [Result.andThen_ok,Sem.run_bind,w1,Sem.run_pure]
   .cases j with
    | zero=>simp at q r;subst q r;exact v2
    | succ j=>exact w3 j y u (by simpa using q) (by simpa using r)
  .cases h
def pPar(j l:Nat):Nat:=900000+100*j+l
def entL(j:Nat):Nat->List D->List D
 | _,[]=>[]
 | l,c::r=>refC (pPar j l) c::entL j (l+1) r
def entD(j:Nat):D->D
 | .ag xs=>.ag (entL j 0 xs)
 | c=>refC (pPar j 0) c
def entO(ars:List D)(i:Nat):Option Ob:=if isP i=true then (ars[(i - 900000) / 100]?).bind fun c=>(zq c ((i - 900000) % 100)).bind unfD else none
def St.ent(ars:List D):St:=⟨fun i=>match ars[i]? with
 | some d=>entD i d
 | none=>.un,entO ars⟩
def lenA:List D->Bool
 | []=>true
 | .ag xs::r=>decide (xs.length<=100)&&lenA r
 | _::r=>lenA r
theorem Vx:∀ (l:List D),lenA l=true->∀ (j:Nat) (xs:List D),l[j]?=some (.ag xs)->xs.length<=100
 | [],_,j,xs,h=>by simp at h
 | c::l,hl,j,xs,h=>by
  have ht:lenA l=true:=by cases c<;>simp_all [lenA]
  cases j with
  | zero=>simp at h;subst h;simp only [lenA,Bool.and_eq_true,decide_eq_true_eq] at hl;exact hl.1
  | succ j=>exact Vx l ht j xs (by simpa using h)
def opnS:Nat->List D->St->St
 | _,[],σ=>σ
 | j,.opt row::r,σ=>opnS (j+1) r (σ.unfB (pPar j 0) row)
 | j,_::r,σ=>opnS (j+1) r σ
def opnB:List D->Bool
 | []=>true
 | .opt row::r=>row.all z9&&opnB r
 | _::r=>opnB r
theorem entL_at(j:Nat):∀ (l:List D) (q n:Nat),(entL j q l)[n]?=(l[n]?).map (refC (pPar j (q+n)))
 | [],q,n=>by simp [entL]
 | c::l,q,0=>by simp [entL]
 | c::l,q,n+1=>by
  rw [entL,List.getElem?_cons_succ,entL_at j l (q+1) n,List.getElem?_cons_succ,show q+1+n=q+(n+1) by omega]
theorem entL_len(j:Nat)(l:List D)(q:Nat):(entL j q l).length=l.length:=by
 induction l generalizing q with
 | nil=>rfl
 | cons c l ih=>simp [entL,ih]
theorem RA_at{g:Gh}{w:World}{j:Nat}{x:D}{u:Value}(h:RA g w j x u){l:Nat}{c:D}(hc:zq x l=some c):Rep g.S g.up w (some (.par j l)) c (xT u l):=by
 have one:∀ d:D,Rep g.S g.up w (some (.par j 0)) d u->(if l=0 then some d else none)=some c->Rep g.S g.up w (some (.par j l)) c (xT u l):=by
  intro d h' hc';split at hc'
  .rename_i e;subst e;injection hc' with hc';subst hc'
   rw [wP h'.one];exact h'
  .cases hc'
 cases x with
 | ag xs=>
  obtain ⟨us,rfl,h1,h2⟩:=h;have hl:l<us.length:=by rw [h1];exact (List.getElem?_eq_some_iff.1 hc).1
  have hu:=List.getElem?_eq_getElem hl;have:xT (.agg us.toArray) l=us[l]:=XL hu;rw [this];exact h2 l c _ hc hu
 | _=>simp only [RA] at h;exact one _ h hc
def enP:Pos->Pos
 | .par j l=>.root (pPar j l)
 | p=>p
theorem Uu{j l:Nat}(hj:j<=900)(hl:l<100):isP (pPar j l)=true/\(pPar j l - 900000) / 100=j/\(pPar j l - 900000) % 100=l:=by
 unfold isP pPar;refine ⟨?_,by omega,by omega⟩
 simp only [Bool.and_eq_true,decide_eq_true_eq];omega
theorem pPar_of{i:Nat}(h:isP i=true):pPar ((i - 900000) / 100) ((i - 900000) % 100)=i:=by
 unfold isP at h
 simp only [Bool.and_eq_true,decide_eq_true_eq] at h
 unfold pPar;omega
def entG(g:Gh)(vs:List Value):Gh:=⟨fun i=>if isP i=true then blkV (xT (vs.getD ((i - 900000) / 100) undef) ((i - 900000) % 100)) else none,fun i=>if isP i=true then capV (xT (vs.getD ((i - 900000) / 100) undef) ((i - 900000) % 100)) else 0,fun b=>(g.up b).map enP,g.S⟩
theorem Rel.entry{P:Program}{N:Nat}{w:World}{g:Gh}{ars:List D}{vs:List Value}(h1:∀ b,g.S b->b<w.heap.size)(h2:∀ b p,g.up b=some p->b<w.heap.size/\¬ g.S b)(hl:vs.length=ars.length)(hv:∀ (j:Nat) (d:D) (u:Value),ars[j]?=some d->vs[j]?=some u->RA g w j d u)(hA:lenA ars=true)(hn:ars.length<=900)(hN:ars.length<=N) :
  Rel ⟨P,N,g.S,fun b=>g.up b≠none,w,(entG g vs).β,(entG g vs).κ⟩ (entG g vs) (St.ent ars) ⟨vs.toArray++Array.replicate (N - vs.toArray.size) undef,[]⟩ w:=by
 have mv:∀ {p:Option Pos} {c:D} {u:Value},Rep g.S g.up w p c u->Rep (entG g vs).S (entG g vs).up w (p.map enP) c u:=fun h=>by
  have m:Mv (fun _=>True) enP g (entG g vs) w w:=⟨fun b hb=>⟨hb,rfl⟩,fun b p hb _=>⟨by show (g.up b).map enP=_;rw [hb];rfl,rfl⟩,fun b p o _ _=>⟨trivial,rfl⟩⟩
  exact Rep.move m h (fun _ _=>trivial)
 have hcell:∀ (j l:Nat) (d c:D),ars[j]?=some d->zq d l=some c->l<100->∃ u,vs[j]?=some u/\Rep (entG g vs).S (entG g vs).up w (some (.root (pPar j l))) c (xT u l)/\(entG g vs).β (pPar j l)=blkV (xT u l)/\(entG g vs).κ (pPar j l)=capV (xT u l):=fun j l d c hd hc hl'=>by
  have hj:j<vs.length:=by rw [hl];exact (List.getElem?_eq_some_iff.1 hd).1
  have hu:vs[j]?=some vs[j]:=List.getElem?_eq_getElem hj;obtain ⟨e1,e2,e3⟩:=Uu (j:=j) (l:=l) (by omega) hl'
  refine ⟨vs[j],hu,mv (RA_at (hv j d _ hd hu) hc),?_,?_⟩
  .show (if _ then _ else _)=_
   rw [if_pos e1,e2,e3,zh hu]
  .show (if _ then _ else _)=_
   rw [if_pos e1,e2,e3,zh hu]
 refine ⟨Below.refl _ _,fun _ _ _=>rfl,rfl,by simp [hl];omega,fun i=>?_,fun _ q=>q,fun b _ q=>.inl q,h1,fun b p hp=>?_,fun i o ho=>?_,fun i o _ _=>⟨rfl,rfl⟩⟩
 .simp only [St.ent]
  cases ha:ars[i]? with
  | none=>trivial
  | some d=>
   have hlt:i<vs.length:=by rw [hl];exact (List.getElem?_eq_some_iff.1 ha).1
   have hg:(vs.toArray++Array.replicate (N - vs.toArray.size) undef).getD i undef=vs[i]:=by
    rw [Array.getD_eq_getD_getElem?,Array.getElem?_append_left (by simpa using hlt)]
    simp [List.getElem?_eq_getElem hlt]
   rw [hg];have hu:vs[i]?=some vs[i]:=List.getElem?_eq_getElem hlt;have hri:=hv i d _ ha hu;have one:∀ c,zq d 0=some c->vs[i].oneCell'=true->RC (entG g vs) w none (refC (pPar i 0) c) vs[i]:=fun c hc h1=>by
    obtain ⟨u,q1,q2,q3,q4⟩:=hcell i 0 d c ha hc (by omega)
    rw [hu] at q1;injection q1 with q1;subst q1
    rw [wP h1] at q2 q3 q4
    exact q2.ref q3 q4
   cases d with
   | ag xs=>
    have hx:=Vx ars hA i xs ha;obtain ⟨us,e,u1,u2⟩:=hri;refine RE.rt (d:=.ag (entL i 0 xs)) ⟨us,e,by rw [entL_len];exact u1,fun l c z hc hz=>?_⟩
    rw [entL_at,Nat.zero_add] at hc
    obtain ⟨c0,q1,rfl⟩:=Option.map_eq_some_iff.1 hc;obtain ⟨u,r1,r2,r3,r4⟩:=hcell i l _ c0 ha q1 (by have:=(List.getElem?_eq_some_iff.1 q1).1;omega)
    rw [hu] at r1;injection r1 with r1;subst r1
    have:xT vs[i] l=z:=by rw [e];exact XL hz
    rw [this] at r2 r3 r4
    exact r2.ref r3 r4
   | un=>trivial
   | tup _=>simp only [RA] at hri;cases hri
   | mb _ _=>simp only [RA] at hri;cases hri
   | bx _ _=>simp only [RA] at hri;cases hri
   | el _ _ _ _=>simp only [RA] at hri;cases hri
   | bs _ _ _=>simp only [RA] at hri;cases hri
   | _=>simp only [RA] at hri;exact (one _ rfl hri.one).re.rt
 .obtain ⟨p',hp',-⟩:=Option.map_eq_some_iff.1 (show (g.up b).map enP=some p from hp)
  obtain ⟨q1,q2⟩:=h2 b p' hp';exact ⟨q1,fun _=>by show g.up b≠none;rw [hp'];simp,q2⟩
 .have ho:entO ars i=some o:=ho
  unfold entO at ho
  split at ho
  .rename_i hp
   obtain ⟨d,q1,q2⟩:=Option.bind_eq_some_iff.1 ho;obtain ⟨c,q3,q4⟩:=Option.bind_eq_some_iff.1 q2;obtain ⟨u,r1,r2,r3,r4⟩:=hcell _ _ d c q1 q3 (Nat.mod_lt _ (by omega))
   rw [pPar_of hp] at r2 r3 r4
   exact r2.ro q4 r3 (fun _ _ _ _=>r4)
  .cases ho
theorem opnB_at:∀ (l:List D),opnB l=true->∀ (j:Nat) (row:List D),l[j]?=some (.opt row)->row.all z9=true
 | [],_,j,row,h=>by simp at h
 | c::l,hl,j,row,h=>by
  have ht:opnB l=true:=by cases c<;>simp_all [opnB]
  cases j with
  | zero=>simp at h;subst h;simp only [opnB,Bool.and_eq_true] at hl;exact hl.1
  | succ j=>exact opnB_at l ht j row (by simpa using h)
theorem opn_ok{x:Cx}{a:Act}{w:World}:∀ (l:List D) (j:Nat) (σ:St) (g:Gh),Rel x g σ a w->opnB l=true->j+l.length<=900->(∀ (q:Nat) (row:List D),l[q]?=some (.opt row)->σ.b (pPar (j+q) 0)=some (.box row))->∃ g',Rel x g' (opnS j l σ) a w
 | [],j,σ,g,h,_,_,_=>⟨g,h⟩
 | c::l,j,σ,g,h,hb,hl,hr=>by
  simp only [List.length_cons] at hl
  have tl:∀ σ' g',opnS j (c::l) σ=opnS (j+1) l σ'->Rel x g' σ' a w->opnB l=true->(∀ (q:Nat) (row:List D),l[q]?=some (.opt row)->σ'.b (pPar (j+1+q) 0)=some (.box row))->∃ g',Rel x g' (opnS j (c::l) σ) a w:=fun σ' g' e h1 h2 h3=>by
   rw [e];exact opn_ok l (j+1) σ' g' h1 h2 (by omega) h3
  have rest:∀ (q:Nat) (row:List D),l[q]?=some (.opt row)->σ.b (pPar (j+1+q) 0)=some (.box row):=fun q row hq=>by
   have:=hr (q+1) row (by simpa using hq)
   rw [show j+(q+1)=j+1+q by omega] at this;exact this
  cases c with
  | opt row=>
   simp only [opnB,Bool.and_eq_true] at hb
   have h0:=hr 0 row rfl;obtain ⟨g1,q1⟩:=h.unfB (id:=pPar j 0) h0 hb.1 (by unfold pPar;omega)
   refine tl _ g1 rfl q1 hb.2 fun q row' hq=>?_
   have hlt:=(List.getElem?_eq_some_iff.1 hq).1;simp only [St.unfB];rw [if_neg (by unfold pPar;omega)]
   have:unfO (pPar j 0) row (pPar (j+1+q) 0)=none:=by
    unfold unfO;rw [if_neg (by unfold pPar;omega)]
   rw [this];simp only;rw [rest q row' hq];simp only [Option.map_some,scO];have hdeep:∀ y∈row',scC (pUn (pPar j 0) row) y=y:=fun y hy=>by
    have:=opnB_at l hb.2 q row' hq;have:=List.all_eq_true.1 this y hy;cases y<;>first|rfl|cases this
   rw [List.map_congr_left hdeep,List.map_id']
  | _=>exact tl σ g rfl h (by simpa [opnB] using hb) rest
def Y6:List Nat->St->Option (Prop×St)
 | [],σ=>some (True,σ)
 | i::r,σ=>match σ.b i with
  | some (.box _)=>match foldB σ i with
   | some (ob,_,σ1)=>match Y6 r σ1 with
    | some (o2,σ2)=>some (ob/\o2,σ2)
    | none=>none
   | none=>none
  | _=>Y6 r σ
theorem Y7{x:Cx}{a:Act}{w:World}:∀ (l:List Nat) {g:Gh} {σ σ':St} {ob:Prop},Rel x g σ a w->Y6 l σ=some (ob,σ')->ob->∃ g',Rel x g' σ' a w
 | [],g,σ,σ',ob,h,hf,ho=>by injection hf with hf;injection hf with e1 e2;subst e2;exact ⟨g,h⟩
 | i::l,g,σ,σ',ob,h,hf,ho=>by
  unfold Y6 at hf
  split at hf
  .split at hf
   .rename_i ob1 ds σ1 h1
    split at hf
    .rename_i o2 σ2 h2
     injection hf with hf;injection hf with e1 e2
     subst e1 e2;obtain ⟨g1,q1⟩:=h.foldB h1 ho.1;exact Y7 l q1 h2 ho.2
    .cases hf
   .cases hf
  .exact Y7 l h hf ho
def boxP:Nat->List D->List Nat
 | _,[]=>[]
 | j,.opt _::r=>pPar j 0::boxP (j+1) r
 | j,_::r=>boxP (j+1) r
def boxC:List D->List Nat
 | []=>[]
 | .bx id _::r=>id::boxC r
 | _::r=>boxC r
def cellsY:List D->List D
 | []=>[]
 | y::r=>wq y++cellsY r
def gvY:Nat->List D->List Gv
 | _,[]=>[]
 | m,y::r=>gvL m 0 (wq y)++gvY (m+1) r
def treY(σ:St):D->Option (Prop×D)
 | .ag xs=>match fdL σ xs with
  | some (ob,ds)=>some (ob,.ag ds)
  | none=>none
 | .un=>some (True,.un)
 | .tup _=>none
 | .mb _ _=>none
 | c=>fdC σ c
def treL(σ:St):List D->Option (Prop×List D)
 | []=>some (True,[])
 | y::r=>match treY σ y,treL σ r with
  | some (o1,d),some (o2,ds)=>some (o1/\o2,d::ds)
  | _,_=>none
def outC(σ:St)(ids:List Nat)(nm:Nat):D->D
 | .opt _=>if pOut ids nm=true then (match σ.b nm with
  | some (.box row)=>if row.all z9=true then .opt row else .un
  | _=>.un) else .un
 | .osl _ _ rows=>if pOut ids nm=true then (match σ.b nm with
  | some (.arr e k rows')=>if rows'.length=rows.length then .osl e k rows' else .un
  | _=>.un) else .un
 | _=>.un
def outL(σ:St)(ids:List Nat)(j:Nat):Nat->List D->List D
 | _,[]=>[]
 | l,c::r=>outC σ ids (pPar j l) c::outL σ ids j (l+1) r
def ownB:D->Bool
 | .osl _ _ _=>true
 | .opt _=>true
 | _=>false
def outD(σ:St)(ids:List Nat)(j:Nat):D->D
 | .ag xs=>if xs.any ownB=true then .ag (outL σ ids j 0 xs) else .un
 | c=>outC σ ids (pPar j 0) c
def Zf(σ:St)(ids:List Nat):Nat->List D->List D
 | _,[]=>[]
 | j,c::r=>outD σ ids j c::Zf σ ids (j+1) r
def retM(P:Program)(rs:List ResultVar)(ars:List D)(Rs:D->List D->Prop)(σ:St):Prop:=match Y6 (boxP 0 ars) σ with
 | some (o1,σ1)=>match aRvs P σ1 rs with
  | some (_,ys0)=>match Y6 (boxC (cellsY ys0)) σ1 with
   | some (o2,σ2)=>match aRvs P σ2 rs with
    | some (o3,ys)=>match treL σ2 ys with
     | some (o4,zs)=>o1/\o2/\o3/\o4/\nodB (gvN (gvY 0 ys))=true/\Rs (mkRes zs) (Zf σ2 (gvN (gvY 0 ys)) 0 ars)
     | none=>False
    | none=>False
   | none=>False
  | none=>False
 | none=>False
def retK(P:Program)(rs:List ResultVar)(ars:List D)(Rs:D->List D->Prop):Exit->St->Prop
 | .normal,σ=>retM P rs ars Rs σ
 | .ret,σ=>retM P rs ars Rs σ
 | _,_=>False
theorem gvY_of:∀ (ys:List D) (q m:Nat) (y c:D) (l i:Nat),ys[m]?=some y->(wq y)[l]?=some c->idC c=some i->(i,q+m,l)∈gvY q ys
 | [],q,m,y,c,l,i,h,_,_=>by simp at h
 | z::ys,q,0,y,c,l,i,h,hc,hi=>by
  simp at h;subst h
  have:=gvL_of q _ 0 l c i hc hi;rw [Nat.zero_add] at this
  exact List.mem_append_left _ this
 | z::ys,q,m+1,y,c,l,i,h,hc,hi=>by
  have:=gvY_of ys (q+1) m y c l i (by simpa using h) hc hi
  rw [show q+1+m=q+(m+1) by omega] at this
  exact List.mem_append_right _ this
theorem treL_at{σ:St}:∀ (l:List D) (ob:Prop) (ds:List D),treL σ l=some (ob,ds)->ob->ds.length=l.length/\∀ (j:Nat) (c d:D),l[j]?=some c->ds[j]?=some d->∃ o1,treY σ c=some (o1,d)/\o1
 | [],ob,ds,h,ho=>by injection h with h;injection h with e1 e2;subst e2;exact ⟨rfl,fun j c d q=>by simp at q⟩
 | c::l,ob,ds,h,ho=>by
  unfold treL at h
  split at h
  .rename_i o1 d o2 ds' h1 h2
   injection h with h;injection h with e1 e2
   subst e1 e2;obtain ⟨i1,i2⟩:=treL_at l o2 ds' h2 ho.2;refine ⟨by simp [i1],fun j c' d' q1 q2=>?_⟩
   cases j with
   | zero=>simp at q1 q2;subst q1 q2;exact ⟨o1,h1,ho.1⟩
   | succ j=>exact i2 j c' d' (by simpa using q1) (by simpa using q2)
  .cases h
theorem outL_at(σ:St)(ids:List Nat)(j:Nat):∀ (l:List D) (q n:Nat),(outL σ ids j q l)[n]?=(l[n]?).map (outC σ ids (pPar j (q+n)))
 | [],q,n=>by simp [outL]
 | c::l,q,0=>by simp [outL]
 | c::l,q,n+1=>by
  rw [outL,List.getElem?_cons_succ,outL_at σ ids j l (q+1) n,List.getElem?_cons_succ,show q+1+n=q+(n+1) by omega]
theorem outL_len(σ:St)(ids:List Nat)(j:Nat)(l:List D)(q:Nat):(outL σ ids j q l).length=l.length:=by
 induction l generalizing q with
 | nil=>rfl
 | cons c l ih=>simp [outL,ih]
theorem xat(σ:St)(ids:List Nat):∀ (l:List D) (q n:Nat),(Zf σ ids q l)[n]?=(l[n]?).map (outD σ ids (q+n))
 | [],q,n=>by simp [Zf]
 | c::l,q,0=>by simp [Zf]
 | c::l,q,n+1=>by
  rw [Zf,List.getElem?_cons_succ,xat σ ids l (q+1) n,List.getElem?_cons_succ,show q+1+n=q+(n+1) by omega]
def reP(gs:List Gv):Pos->Pos
 | .root i=>match gvF gs i with
  | some (m,l)=>.ans m l
  | none=>if isP i=true then .par ((i - 900000) / 100) ((i - 900000) % 100) else .root i
 | p=>p
theorem gvF_none{gs:List Gv}{i:Nat}(h:pOut (gvN gs) i=true):gvF gs i=none:=by
 cases q:gvF gs i with
 | none=>rfl
 | some p=>exact absurd rfl (xC h i (List.mem_map.2 ⟨_,gvF_mem (j:=p.1) (l:=p.2) q,rfl⟩))
theorem ret_ok{P:Program}{N:Nat}{w0:World}{g0:Gh}{ars:List D}{vs:List Value}(hl:vs.length=ars.length)(hn:ars.length<=900)(hA:lenA ars=true)(hv:∀ (j:Nat) (d:D) (u:Value),ars[j]?=some d->vs[j]?=some u->RA g0 w0 j d u){rs:List ResultVar}{fn:Func}(hrs:fn.results=rs.toArray){Rs:D->List D->Prop}
  {x:Cx} (hx:x=⟨P,N,g0.S,fun b=>g0.up b≠none,w0,(entG g0 vs).β,(entG g0 vs).κ⟩) {g:Gh} {σ:St} {a:Act} {w:World} (hr:Rel x g σ a w) (h:retM P rs ars Rs σ) :
  a.defers=[]/\∃ v,(results fn a.tmps).run P w=.ok v w/\∃ v' g' r outs,Ending.returned v=.returned v'/\Below 0 w0 w/\(∀ b,b<w0.heap.size->g0.up b=none->w.heap[b]?=w0.heap[b]?)/\(∀ b,g0.S b->Gh.S g' b)/\(∀ b,b<w0.heap.size->g'.S b->g0.S b\/g0.up b≠none)/\(∀ b,g'.S b->b<w.heap.size) /\
   (∀ b p,g'.up b=some p->b<w.heap.size/\(b<w0.heap.size->g0.up b≠none)/\¬ g'.S b)/\Rs r outs/\RNs g' w r v'/\∀ (j:Nat) (d:D) (u:Value),outs[j]?=some d->vs[j]?=some u->RU g' w j d u:=by
 have hP:x.P=P:=by rw [hx]
 unfold retM at h
 split at h
 .rename_i o1 σ1 f1
  split at h
  .rename_i q0 ys0 a1
   split at h
   .rename_i o2 σ2 f2
    split at h
    .rename_i o3 ys a2
     split at h
     .rename_i o4 zs t1
      obtain ⟨p1,p2,p3,p4,p5,p6⟩:=h;obtain ⟨g1,hr1⟩:=Y7 _ hr f1 p1;obtain ⟨g2,hr2⟩:=Y7 _ hr1 f2 p2;rw [<- hP] at a2
      obtain ⟨vs',w1,w2,w3⟩:=aRvs_ok hr2 _ _ _ a2 p3;rw [hP] at w1
      let gs:=gvY 0 ys
      let gr:Gh:=⟨g2.β,g2.κ,fun b=>(g2.up b).map (reP gs),g2.S⟩
      have mv:∀ {p:Option Pos} {c:D} {u:Value},Rep g2.S g2.up w p c u->Rep gr.S gr.up w (p.map (reP gs)) c u:=fun h=>by
       have m:Mv (fun _=>True) (reP gs) g2 gr w w:=⟨fun b hb=>⟨hb,rfl⟩,fun b p hb _=>⟨by show (g2.up b).map _=_;rw [hb];rfl,rfl⟩,fun b p o _ _=>⟨trivial,rfl⟩⟩
       exact Rep.move m h (fun _ _=>trivial)
      obtain ⟨l1,l2⟩:=treL_at _ _ _ t1 p4;have cell:∀ (m l:Nat) (y c d:D) (ob:Prop) (u:Value),ys[m]?=some y->(wq y)[l]?=some c->fdC σ2 c=some (ob,d)->ob->RC g2 w none c u->Rep gr.S gr.up w (some (.ans m l)) d u:=fun m l y c d ob u h1 h2 h3 h4 h5=>by
       rcases X6 hr2 h3 h4 h5 with ⟨q1,q2⟩|⟨i,q1,q2⟩
       .exact (mv q2).any _
       .have hm:=gvY_of ys 0 m y c l i h1 h2 q1
        rw [Nat.zero_add] at hm
        have:=mv q2;have hm':gvF gs i=some (m,l):=gvF_of p5 hm;simp only [Option.map_some,reP,hm'] at this
        exact this
      have hRN:∀ (m:Nat) (y z:D) (u:Value),ys[m]?=some y->zs[m]?=some z->vs'[m]?=some u->RN gr w m z u:=fun m y z u h1 h2 h3=>by
       obtain ⟨ob,q1,q2⟩:=l2 m y z h1 h2;have hu:=w3 m y u h1 h3;cases y with
       | ag xs=>
        simp only [treY] at q1
        split at q1
        .rename_i ob' ds hf
         injection q1 with q1;injection q1 with e1 e2
         subst e1 e2;obtain ⟨us,rfl,u1,u2⟩:=hu;obtain ⟨k1,k2⟩:=U2 _ _ _ hf q2;refine ⟨us,rfl,by rw [u1,k1],fun l d z hd hz=>?_⟩
         have hlt:l<xs.length:=by rw [<- k1];exact (List.getElem?_eq_some_iff.1 hd).1
         have hc:xs[l]?=some xs[l]:=List.getElem?_eq_getElem hlt;obtain ⟨o5,k3,k4⟩:=k2 l _ d hc hd;exact cell m l _ _ d o5 z h1 hc k3 k4 (u2 l _ z hc hz)
        .cases q1
       | un=>simp only [treY] at q1;injection q1 with q1;injection q1 with e1 e2;subst e2;trivial
       | tup _=>cases q1
       | mb _ _=>cases q1
       | _=>
        simp only [treY] at q1
        simp only [RE] at hu
        have:=cell m 0 _ _ z ob u h1 rfl q1 q2 hu;cases z<;>first|exact this|cases this
      have hres:∃ v,(results fn a.tmps).run P w=.ok v w/\RNs gr w (mkRes zs) v:=by
       rw [xcb,Array.mapM_eq_mapM_toList];have w1:(List.mapM (rvS a.tmps) fn.results.toList).run P w=.ok vs' w:=by rw [hrs];exact w1
       simp only [Sem.run_bind,Sem.run_map,w1,Result.andThen_ok,Sem.run_pure]
       match ys,zs,vs',l1,w2,hRN with
       | [],[],[],_,_,_=>exact ⟨_,rfl,[],rfl,rfl,fun m y u q=>by simp at q⟩
       | [y],[z],[v],_,_,hRN=>
        refine ⟨v,by simp,?_⟩
        have:=hRN 0 y z v rfl rfl rfl;cases z<;>first|exact this|(simp only [RN] at this;cases this)
       | y1::y2::ys,z1::z2::zs,v1::v2::vs',l1,w2,hRN=>
        refine ⟨.tuple (v1::v2::vs').toArray,by simp,v1::v2::vs',rfl,by simp at l1 w2 ⊢;omega,fun m z u hz hu=>?_⟩
        have hm:m<(y1::y2::ys).length:=by rw [<- l1];exact (List.getElem?_eq_some_iff.1 hz).1
        exact hRN m _ z u (List.getElem?_eq_getElem hm) hz hu
      obtain ⟨v,v1,v2⟩:=hres;have hbβ:x.β0=(entG g0 vs).β/\x.κ0=(entG g0 vs).κ:=by rw [hx];exact ⟨rfl,rfl⟩
      have hout:∀ (j l:Nat) (d c:D) (u:Value),ars[j]?=some d->vs[j]?=some u->zq d l=some c->l<100->outC σ2 (gvN gs) (pPar j l) c=.un\/Rep gr.S gr.up w (some (.par j l)) (outC σ2 (gvN gs) (pPar j l) c) (xT u l):=fun j l d c u hd hu hc hl'=>by
       obtain ⟨e1,e2,e3⟩:=Uu (j:=j) (l:=l) (by have:=(List.getElem?_eq_some_iff.1 hd).1;omega) hl'
       have hRA:=RA_at (hv j d u hd hu) hc;have hβ:∀ o,σ2.b (pPar j l)=some o->g2.β (pPar j l)=blkV (xT u l)/\g2.κ (pPar j l)=capV (xT u l):=fun o ho=>by
        obtain ⟨q1,q2⟩:=hr2.par _ o ho e1;rw [q1,q2,hbβ.1,hbβ.2]
        constructor
        .show (if _ then _ else _)=_
         rw [if_pos e1,e2,e3,zh hu]
        .show (if _ then _ else _)=_
         rw [if_pos e1,e2,e3,zh hu]
       have hpos:pOut (gvN gs) (pPar j l)=true->reP gs (.root (pPar j l))=.par j l:=fun q=>by
        simp only [reP,gvF_none q,if_pos e1,e2,e3]
       cases c with
       | opt row0=>
        simp only [outC];split
        .rename_i hp
         split
         .rename_i row hb
          split
          .rename_i hdp
           right
           obtain ⟨b,cs,ty,b1,b2,b3,b4,b5⟩:=hr2.ob _ _ hb;have q:=(hβ _ hb).1;generalize xT u l=z at hRA q
           cases hRA with
           | @opt _ _ b' ty' cs' r1 r2 r3 r4=>
            rw [b1] at q
            injection q with q
            subst q;have:=mv (Rep.opt (S:=g2.S) (p:=.root (pPar j l)) cs b2 b3 b4 fun j' d' hj=>(b5 j' d' hj).deep (List.all_eq_true.1 hdp d' (List.mem_of_getElem? hj)))
            rw [Option.map_some,hpos hp] at this
            exact this
          .exact .inl rfl
         .exact .inl rfl
        .exact .inl rfl
       | osl e k rows=>
        simp only [outC];split
        .rename_i hp
         split
         .rename_i e' k' rows' hb
          split
          .rename_i hlen
           right
           have hR:Rep g2.S g2.up w (some (.root (pPar j l))) (.osl e' k' rows') (.slice ((g2.β (pPar j l)).map fun b=>⟨b,0,none⟩) rows'.length (g2.κ (pPar j l))):=hr2.ob _ _ hb
           obtain ⟨q1,q2⟩:=hβ _ hb;have:=mv hR;rw [Option.map_some,hpos hp,q1,q2,hlen] at this
           generalize xT u l=z at hRA this
           cases hRA with
           | osl0=>exact this
           | osl cs' r1 r2 r3 r4 r5 r6 r7=>exact this
          .exact .inl rfl
         .exact .inl rfl
        .exact .inl rfl
       | _=>exact .inl rfl
      refine ⟨hr.dfr,v,v1,v,gr,_,_,rfl,by have:=hr2.bel;rw [hx] at this;exact this,fun b h1 h2=>?_,fun b hs=>?_,fun b h1 h2=>?_,hr2.new,fun b p hp=>?_,p6,v2,fun j d u hd hu=>?_⟩
      .have:=hr2.fr b (by rw [hx];exact h1) (by rw [hx];simpa using h2)
       rw [hx] at this;exact this
      .exact hr2.s0 b (by rw [hx];exact hs)
      .have:=hr2.old b (by rw [hx];exact h1) h2
       rw [hx] at this;exact this
      .obtain ⟨p',hp',-⟩:=Option.map_eq_some_iff.1 (show (g2.up b).map _=some p from hp)
       obtain ⟨k1,k2,k3⟩:=hr2.own b p' hp';rw [hx] at k2
       exact ⟨k1,k2,k3⟩
      .rw [xat,Nat.zero_add] at hd
       obtain ⟨d0,k1,rfl⟩:=Option.map_eq_some_iff.1 hd;have one:∀ c,zq d0 0=some c->xT u 0=u->(outC σ2 (gvN gs) (pPar j 0) c=.un\/Rep gr.S gr.up w (some (.par j 0)) (outC σ2 (gvN gs) (pPar j 0) c) u):=fun c hc e=>by
        have:=hout j 0 d0 c u k1 hu hc (by omega)
        rwa [e] at this
       have hRA0:=hv j d0 u k1 hu;cases d0 with
       | ag xs=>
        simp only [outD];split
        .obtain ⟨us,e,u1,u2⟩:=hRA0
         refine ⟨us,e,by rw [outL_len];exact u1,fun l c z hc hz=>?_⟩
         rw [outL_at,Nat.zero_add] at hc
         obtain ⟨c0,k2,rfl⟩:=Option.map_eq_some_iff.1 hc;have:=hout j l _ c0 u k1 hu k2 (by have:=Vx ars hA j xs k1;have:=(List.getElem?_eq_some_iff.1 k2).1;omega)
         have hz':xT u l=z:=by rw [e];exact XL hz
         rw [hz'] at this
         exact this
        .trivial
       | opt row0=>
        simp only [RA] at hRA0
        rcases one _ rfl (wP hRA0.one 0) with q|q
        .change RU gr w j (outC σ2 (gvN gs) (pPar j 0) (.opt row0)) u;rw [q];trivial
        .change RU gr w j (outC σ2 (gvN gs) (pPar j 0) (.opt row0)) u
         generalize outC σ2 (gvN gs) (pPar j 0) (D.opt row0)=z at q
         cases z<;>first|exact q|trivial|cases q
       | osl e k rows0=>
        simp only [RA] at hRA0
        rcases one _ rfl (wP hRA0.one 0) with q|q
        .change RU gr w j (outC σ2 (gvN gs) (pPar j 0) (.osl e k rows0)) u;rw [q];trivial
        .change RU gr w j (outC σ2 (gvN gs) (pPar j 0) (.osl e k rows0)) u
         generalize outC σ2 (gvN gs) (pPar j 0) (D.osl e k rows0)=z at q
         cases z<;>first|exact q|trivial|cases q
       | _=>trivial
     .exact h.elim
    .exact h.elim
   .exact h.elim
  .exact h.elim
 .exact h.elim
theorem FCon.intro (M:Md) {f:FuncId} (fn:Func) {c:Code} (hf:M.P.funcs[f]?=some fn) (hname:(fn.name == "runtime.NumGoroutine")=false) (hb:fn.body=some c) (N:Nat) (hN:fn.ntmps=N) {rs:List ResultVar} (hrs:fn.results=rs.toArray) (pl:List (Nat×Plan)) (hck:chkC pl N c=true) {ars:List D} {Rs:D->List D->Prop}
  (hlen:ars.length<=N) (hn:ars.length<=900) (hA:lenA ars=true) (ho:opnB ars=true) (h:AC M N pl c (retK M.P rs ars Rs) (opnS 0 ars (St.ent ars))):FCon M.P f ars Rs:=by
 refine ⟨fun vs w=>?_,fun w g vs h1 h2 hl hv=>calls_of_wp hf hb ?_⟩
 .have hname':¬ fn.name = "runtime.NumGoroutine" := by simpa using hname
  have hbn:¬ fn.body=none:=by rw [hb];simp
  simp [callFunc,hf,hname',hbn]
 .have hR:=Rel.entry (P:=M.P) (N:=N) h1 h2 hl hv hA hn hlen
  obtain ⟨g',hR'⟩:=opn_ok ars 0 _ _ hR ho (by omega) (fun q row hq=>by
   have hq':=(List.getElem?_eq_some_iff.1 hq).1;obtain ⟨e1,e2,e3⟩:=Uu (j:=q) (l:=0) (by omega) (by omega)
   rw [Nat.zero_add];show entO ars _=_;unfold entO;rw [if_pos e1,e2,e3,hq];rfl)
  rw [<- hN] at hR'
  refine h hck _ g' _ w _ rfl hN hR' ?_;intro e σ' g'' a' w' hr' hK;cases e with
  | normal=>exact ret_ok hl hn hA hv hrs rfl hr' hK
  | ret=>exact ret_ok hl hn hA hv hrs rfl hr' hK
  | exit id=>exact hK.elim
  | goto l=>exact hK.elim
  | panic c=>exact hK.elim
  | outgrown=>exact hK.elim
section
variable {M:Md} {N:Nat} {pl:List (Nat×Plan)} {K K':Exit->St->Prop} {F:St->Prop} {σ:St} {ops:Array Oper}
theorem sp_skip:stp M N pl .skip K σ=K .normal σ:=rfl
theorem sp_exit{id:Nat}:stp M N pl (.exit id) K σ=K (.exit id) σ:=rfl
theorem sp_ret:stp M N pl .ret K σ=K .ret σ:=rfl
theorem sp_seq{c d:Code}:stp M N pl (.seq c d) K σ=stp M N pl c (Zn (AC M N pl d K) K) σ:=rfl
theorem sp_block{id:Nat}{c:Code}:stp M N pl (.block id c) K σ=stp M N pl c (YN id K) σ:=rfl
theorem sp_cond{z:Operand}{c d:Code}:stp M N pl (.cond z c d) K σ=condV (ev σ z) (AC M N pl c K σ) (AC M N pl d K σ):=rfl
theorem sp_reg{id:Nat}{l:List Oper}:stp M N pl (.region id l.toArray false) K σ=aops (M.at id) l.toArray (K .normal) l σ:=rfl
def drwV(M:Md)(ops:Array Oper)(K:St->Prop)(σ:St):Option Plan->Prop
 | some (m,fx,fl,π)=>aqsN M ops (flF fl) (aops M ops K (ops.toList.drop m)) π [] σ
 | none=>False
theorem sp_drw{id:Nat}{l:List Oper}:stp M N pl (.region id l.toArray true) K σ=drwV (M.at id) l.toArray (K .normal) σ (plF pl id):=by
 show (match plF pl id with|some (m,fx,fl,π)=>_|none=>False)=_
 cases plF pl id<;>rfl
theorem sp_loop{c:Code}:stp M N pl (.loop c) K σ=ACL M N pl c K σ:=rfl
theorem k_tn:Zn F K .normal σ=F σ:=rfl
theorem k_te{i:Nat}:Zn F K (.exit i) σ=K (.exit i) σ:=rfl
theorem k_tr:Zn F K .ret σ=K .ret σ:=rfl
theorem k_bn{i:Nat}:YN i K .normal σ=K .normal σ:=rfl
theorem k_br{i:Nat}:YN i K .ret σ=K .ret σ:=rfl
theorem k_be{i j:Nat}:YN i K (.exit j) σ=if j=i then K .normal σ else K (.exit j) σ:=rfl
theorem k_rn{P:Program}{rs:List ResultVar}{ars:List D}{Rs:D->List D->Prop}:retK P rs ars Rs .normal σ=retM P rs ars Rs σ:=rfl
theorem k_rr{P:Program}{rs:List ResultVar}{ars:List D}{Rs:D->List D->Prop}:retK P rs ars Rs .ret σ=retM P rs ars Rs σ:=rfl
theorem ao_nil:aops M ops F [] σ=F σ:=rfl
theorem ao_cons{o:Oper}{l:List Oper}:aops M ops F (o::l) σ=astep M ops o σ (aops M ops F l):=rfl
theorem ent_t(ars:List D)(i:Nat):(St.ent ars).t i=match ars[i]? with
 | some d=>entD i d
 | none=>.un:=rfl
theorem ent_b(ars:List D):(St.ent ars).b=entO ars:=rfl
theorem put_t(d:Nat)(y:D)(i:Nat):(σ.put (some d) y).t i=if i=d then y else σ.t i:=rfl
theorem put_b(d:Nat)(y:D):(σ.put (some d) y).b=σ.b:=rfl
theorem put_n(y:D):σ.put none y=σ:=rfl
theorem sc_t(q r:Nat->Bool)(i:Nat):(σ.sc q r).t i=scT q (σ.t i):=rfl
theorem sc_b(q r:Nat->Bool)(i:Nat):(σ.sc q r).b i=if r i=true then (σ.b i).map (scO q) else none:=rfl
theorem setB_t(d:Nat)(o:Ob)(i:Nat):(σ.setB d o).t i=σ.t i:=rfl
theorem setB_b(d:Nat)(o:Ob)(i:Nat):(σ.setB d o).b i=if i=d then some o else σ.b i:=rfl
theorem fr_t(d:Nat)(o:Ob)(i:Nat):(σ.fr d o).t i=frT d o (σ.t i):=rfl
theorem fr_b(d:Nat)(o:Ob)(i:Nat):(σ.fr d o).b i=if i=d then none else (σ.b i).map (frO d o):=rfl
theorem unf_t(id:Nat)(row:List D)(i:Nat):(σ.unfB id row).t i=scT (pUn id row) (σ.t i):=rfl
theorem unf_b(id:Nat)(row:List D)(i:Nat):(σ.unfB id row).b i=if i=id then some (.box (unfL id 0 row)) else match unfO id row i with
  | some o=>some o
  | none=>(σ.b i).map (scO (pUn id row)):=rfl
theorem cal_t(d:Nat)(gs:List Gv)(r:D)(outs:List D)(i:Nat):(σ.cal d gs r outs).t i=scT (qCal d gs outs) (σ.t i):=rfl
theorem cal_b(d:Nat)(gs:List Gv)(r:D)(outs:List D)(i:Nat):(σ.cal d gs r outs).b i=match ansO d r i with
  | some o=>some o
  | none=>match outO outs gs i with
   | some o=>if ansB d i=true then none else some o
   | none=>if ansB d i=true\/inG gs i=true then none else (σ.b i).map (scO (qCal d gs outs)):=rfl
theorem op_t(id e k:Nat)(rows:List (List D))(i c nm:Nat)(d:D)(o:Ob)(j:Nat):(σ.opE id e k rows i c nm d o).t j=scT (pOut [nm]) (σ.t j):=rfl
theorem op_b(id e k:Nat)(rows:List (List D))(i c nm:Nat)(d:D)(o:Ob)(j:Nat):(σ.opE id e k rows i c nm d o).b j=if j=nm then some o else if j=id then some (.hol e k rows i c (refC nm d)) else if pOut [nm,id] j=true then (σ.b j).map (scO (pOut [nm])) else none:=rfl
theorem opR_t(id e k:Nat)(rows:List (List D))(i:Nat)(rr:List D)(c nm:Nat)(d:D)(o:Ob)(j:Nat):(σ.opR id e k rows i rr c nm d o).t j=scT (pOut [nm]) (σ.t j):=rfl
theorem opR_b(id e k:Nat)(rows:List (List D))(i:Nat)(rr:List D)(c nm:Nat)(d:D)(o:Ob)(j:Nat):(σ.opR id e k rows i rr c nm d o).b j=if j=nm then some o else if j=id then some (.rw e k rows i ((rr.map (scC (pOut [nm]))).set c (refC nm d))) else if pOut [nm,id] j=true then (σ.b j).map (scO (pOut [nm])) else none:=rfl
theorem ev_t(i:Nat):ev σ (.tmp i)=σ.t i:=rfl
theorem ev_i(k:IntKind)(n:Int):ev σ (.const (.int k n))=.s (.int k n):=rfl
theorem ev_b(b:Bool):ev σ (.const (.bool b))=.s (.bool b):=rfl
theorem ev_s(s:ByteArray):ev σ (.const (.string s))=.s (.string s):=rfl
theorem ev_nil:ev σ (.const (.slice none 0 0))=.nil:=rfl
theorem ev_np:ev σ (.const (.pointer none))=.np:=rfl
theorem ev_f(f:FuncId):ev σ (.func f)=.fn f []:=rfl
end
theorem bnil(s:ByteArray):(s.toList==ByteArray.toList ⟨#[]⟩)=s.toList.isEmpty:=by
 have:ByteArray.toList ⟨#[]⟩=[]:=by kernel_rfl
 rw [this];cases s.toList<;>rfl
theorem xu{P:Program}{f:FuncId}{ars:List D}{bs:List Nat}{K:D->List D->Prop}{Rs:D->List D->Prop}(hF:FCon P f ars Rs)(h:∀ r outs,Rs r outs->(bs=[]\/(Pure r/\∀ o∈outs,Pure o))/\K r outs):Wl P f ars bs K:=⟨Rs,hF,h⟩
theorem CallE_mk{P:Program}{f:FuncId}{ars:List D}{bs:List Nat}{K:D->List D->Prop}{r0:D}{o0:List D}(hF:FCon P f ars (fun r o=>r=r0/\o=o0))(h:(bs=[]\/(Pure r0/\∀ o∈o0,Pure o))/\K r0 o0):CallE P f ars bs K:=⟨r0,o0,hF,h.1,h.2⟩
def CallQ(P:Program)(f:FuncId)(ars:List D)(bs:List Nat)(c:Bool)(wr:D->D)(σ:St)(dst:Option Tmp)(K:St->Prop):Prop:=∃ r0,(c=true->FCon P f ars (fun r _=>r=r0)/\(bs=[]\/Pure r0))/\K (σ.put dst (wr (frA r0)))
def callQA(P:Program)(σ:St)(dst:Option Tmp)(c:Bool)(wr:D->D)(K:St->Prop)(ob:Prop)(f:FuncId)(caps:List D):Option (Prop×List D×List Gv×List Nat)->Prop
 | some (o2,ars,gs,bs)=>dst.isSome=true/\gs=[]/\(c=true->ob/\o2)/\CallQ P f (ars++caps) bs c wr σ dst K
 | none=>c=false/\K (σ.put dst (wr .un))
def callQM(P:Program)(σ:St)(dst:Option Tmp)(c:Bool)(wr:D->D)(K:St->Prop):Option (Prop×FuncId×List D×List Operand)->Prop
 | some (ob,f,caps,ops)=>callQA P σ dst c wr K ob f caps (uy σ [] 0 ops)
 | none=>c=false/\K (σ.put dst (wr .un))
theorem Zz{P:Program}{σ:St}{o:Oper}{c:Bool}{wr:D->D}{K:St->Prop}(h:callQM P σ o.dst c wr K (aFn σ o.op)):Zy P σ o c wr K:=by
 unfold callQM at h
 split at h
 .rename_i ob f caps ops hc
  unfold callQA at h
  split at h
  .rename_i o2 ars gs bs ha
   obtain ⟨hd,rfl,ho,r0,hF,hK⟩:=h;obtain ⟨d,hd⟩:=Option.isSome_iff_exists.1 hd;exact ⟨frA r0,fun q=>⟨d,ob,f,caps,ops,o2,ars,bs,r0,hd,hc,(ho q).1,ha,(ho q).2,(hF q).1,(hF q).2,rfl⟩,hK⟩
  .exact ⟨_,fun q=>(by rw [h.1] at q;cases q),h.2⟩
 .exact ⟨_,fun q=>(by rw [h.1] at q;cases q),h.2⟩
theorem ZA{P:Program}{σ:St}{o:Oper}{wr:D->D}{K:St->Prop}(y:D)(h:K (σ.put o.dst (wr y))):Zy P σ o false wr K:=⟨y,fun q=>(by cases q),h⟩
theorem CallQ_no{P:Program}{f:FuncId}{ars:List D}{bs:List Nat}{wr:D->D}{σ:St}{dst:Option Tmp}{K:St->Prop}(h:K (σ.put dst (wr .un))):CallQ P f ars bs false wr σ dst K:=⟨.un,fun q=>(by cases q),h⟩
theorem xg{P:Program}{f:FuncId}{ars:List D}{bs:List Nat}{c:Bool}{wr:D->D}{σ:St}{dst:Option Tmp}{K:St->Prop}{r:D}(hF:FCon P f ars (fun r' _=>r'=r))(h:(c=true->bs=[]\/Pure r)/\K (σ.put dst (wr (frA r)))):CallQ P f ars bs c wr σ dst K:=⟨r,fun hc=>⟨hF,h.1 hc⟩,h.2⟩
theorem xi{α:Type}(enc:α->List D)(xs:List α)(k:Nat)(h:k<xs.length):(xs.map enc).getD k []=enc xs[k]:=by
 rw [List.getD_eq_getElem?_getD,List.getElem?_map,List.getElem?_eq_getElem h];rfl
theorem pure_s(v:Value):Pure (.s v)=True:=eq_true (.s v)
theorem pure_nil:Pure .nil=True:=eq_true .nil
theorem pure_un:Pure .un=True:=eq_true .un
attribute [go_sem] sp_skip sp_exit sp_ret sp_seq sp_block sp_cond sp_reg sp_drw sp_loop drwV k_tn k_te k_tr k_bn k_br k_be k_rn k_rr ao_nil ao_cons ent_t ent_b put_t put_b put_n sc_t sc_b setB_t setB_b fr_t fr_b unf_t unf_b cal_t cal_b op_t op_b opR_t opR_b ev_t ev_i ev_b ev_s ev_nil ev_np ev_f pure_s pure_nil pure_un aqsN_nil aqsN_no aqsN_fl aqsN_fx aqsN_fx1 altK_ap lin_nil lin_cons aPivN aEff aFlQ aqst flF plF condV astep gvCall aopP aop1 aop2 aop3 aopF aopB Wj ACallE aFn aft callQM callQA lift2 aBin aBinI aBinS aUn XE Zb ldC XC UE XD UF UG vG aLen aConv aNil aPick WX rowsE intE Xt wq Xj vF Yj lay Yi srcK nmA fdC fdL idC idO idsC nodB pOut isP foldB Y6 zA Xm ul reop argC argL argD uy gvL bsL fdB idB z9 deepO frz frzL frC frE frT frO scC scE scT scO unfL unfC unfD unfO pUn nmU refC entL entD entO zq Ys ansO ansB ansN outO inG qCal shC shL shE shM shA lenE lenT frA retM aRvs aRv mkRes boxP boxC cellsY gvY gvN gvK treY treL outC outL outD Zf ownB opnS opnB lenA pPar grd gvT Wq gdT xL oblT oblO kmin kmax eqCs List.getElem?_toArray List.getElem?_cons_zero List.getElem?_cons_succ List.drop_zero List.drop_succ_cons List.take_zero List.take_succ_cons List.take_nil List.drop_nil List.map_cons List.map_nil List.append_nil List.nil_append List.cons_append List.length_cons List.length_nil List.length_map List.length_append List.all_cons List.all_nil List.any_cons List.any_nil List.filter_cons List.filter_nil List.contains_cons List.contains_nil List.getD_cons_zero List.getD_cons_succ List.getD_nil List.set_cons_zero List.set_cons_succ Nat.zero_add Nat.add_zero Option.map_some Option.map_none Option.bind_some Option.bind_none Option.isNone_some Option.isNone_none Option.isSome_some Option.isSome_none Option.getD_some Option.getD_none if_true if_false Bool.false_eq_true true_and and_true and_self false_and and_false true_implies implies_true List.toList_toArray Option.some.injEq Int.toNat_natCast bnil beq_true beq_false imp_self beq_self_eq_true bne_self_eq_false Bool.cond_true_left Bool.cond_true_right Bool.cond_false_left Bool.cond_false_right Bool.true_and Bool.and_true Bool.false_and Bool.and_false Bool.true_or Bool.or_true Bool.false_or Bool.or_false Bool.not_true Bool.not_false forall_const id_eq or_true true_or or_false false_or not_true_eq_false not_false_eq_true decide_true decide_false
theorem Und.up_some{up:Nat->Option Pos}{R:Nat->Prop}{b:Nat}(h:Und up R b):up b≠none:=by
 cases h with
 | root h _=>rw [h];simp
 | cell h _=>rw [h];simp
theorem Rep.rn{g:Gh}{w:World}{m:Nat}{d:D}{v:Value}(h:Rep g.S g.up w none d v):RN g w m d v:=by
 cases d with
 | un=>trivial
 | ag _=>cases h
 | _=>exact h.any _
open Classical in
theorem FCon.frz{P:Program}{f:FuncId}{args:List D}{Rs:D->List D->Prop}(h:FCon P f args Rs):FCon P f args (fun r o=>∃ r0,Rs r0 o/\r=frA r0):=by
 refine ⟨h.ent,fun w g vs h1 h2 h3 h4=>(h.run w g vs h1 h2 h3 h4).mono ?_⟩
 rintro e w' ⟨v,g',r,o,a1,a2,a3,a4,a5,a6,a7,a8,a9,a10⟩
 let π:Pos->Pos:=fun p=>match p with
  | .cell b o=>.cell b o
  | .ans _ _=>.root 0
  | _=>.root 1
 let up1:Nat->Option Pos:=fun b=>(g'.up b).map π
 let Rb:Nat->Prop:=fun i=>i=0
 let ga:Gh:=⟨g'.β,g'.κ,fun b=>if Und up1 Rb b then none else g'.up b,fun b=>g'.S b\/Und up1 Rb b⟩
 have hund:∀ b,Und up1 Rb b->g'.up b≠none:=fun b q e=>q.up_some (by show (g'.up b).map π=none;rw [e];rfl)
 let Ok:Pos->Prop:=fun p=>match p with
  | .cell b _=>¬ Und up1 Rb b
  | .ans _ _=>False
  | _=>True
 have hok:∀ b p,g'.up b=some p->Ok p->¬ Und up1 Rb b:=by
  intro b p hp ho hu;cases hu with
  | root q r=>
   have q:(g'.up b).map π=some (.root _):=q;rw [hp,Option.map_some] at q
   injection q with q
   cases p with
   | cell b' o'=>cases q
   | ans _ _=>exact ho
   | root _=>injection q with q;subst q;cases r
   | par _ _=>injection q with q;subst q;cases r
  | cell q r=>
   have q:(g'.up b).map π=some (.cell _ _):=q;rw [hp,Option.map_some] at q
   injection q with q
   cases p with
   | cell b' o'=>injection q with q1 q2;subst q1;exact ho r
   | ans _ _=>cases q
   | root _=>cases q
   | par _ _=>cases q
 have mv:Mv Ok (fun p=>p) g' ga w' w':=⟨fun b hb=>⟨.inl hb,rfl⟩,fun b p hb ho=>⟨by show (if Und up1 Rb b then none else g'.up b)=_;rw [if_neg (hok b p hb ho)];exact hb,rfl⟩,fun b p o hb ho=>⟨hok b p hb ho,rfl⟩⟩
 have key:∀ (m l:Nat) (c:D) (u:Value),Rep g'.S g'.up w' (some (.ans m l)) c u->Rep ga.S ga.up w' none (Go.Proofs.YtgcdbmcoendcdaaGreat.frz c) u:=by
  intro m l c u hr;have h1:Rep g'.S up1 w' ((some (.ans m l)).map π) c u:=Rep.move (Ok:=fun _=>True) (π:=π) (g:=g') (g':=⟨g'.β,g'.κ,up1,g'.S⟩) ⟨fun b hb=>⟨hb,rfl⟩,fun b p hb _=>⟨by show (g'.up b).map π=_;rw [hb];rfl,rfl⟩,fun b p o hb _=>⟨trivial,rfl⟩⟩ hr (fun _ _=>trivial)
  exact h1.froz (S':=ga.S) (up':=ga.up) (R:=Rb) (fun b hs=>.inl hs) (fun b hu=>.inr hu) (fun q hq=>by
   have hq:some (Pos.root 0)=some q:=hq;injection hq with hq;subst hq;rfl)
 have cellE:∀ (m:Nat) (y:D) (u:Value),RN g' w' m y u->RN ga w' m (match y with|.ag ys=>.ag (frzL ys)|y=>Go.Proofs.YtgcdbmcoendcdaaGreat.frz y) u:=by
  intro m y u hN;cases y with
  | un=>trivial
  | ag xs=>
   obtain ⟨us,rfl,n1,n2⟩:=hN;refine ⟨us,rfl,by rw [Ub];exact n1,fun l c z hc hz=>?_⟩
   rw [ur,List.getElem?_map] at hc
   obtain ⟨c0,q1,rfl⟩:=Option.map_eq_some_iff.1 hc;exact (key _ _ _ _ (n2 l c0 z q1 hz)).any _
  | tup _=>simp only [RN] at hN;cases hN
  | mb _ _=>simp only [RN] at hN;cases hN
  | bx _ _=>simp only [RN] at hN;cases hN
  | el _ _ _ _=>simp only [RN] at hN;cases hN
  | bs _ _ _=>simp only [RN] at hN;cases hN
  | _=>simp only [RN] at hN;exact (key _ _ _ _ hN).rn
 refine ⟨v,ga,frA r,o,a1,a2,a3,fun b hb=>.inl (a4 b hb),fun b hb hs=>?_,fun b hs=>?_,fun b p hp=>?_,⟨r,a8,rfl⟩,?_,fun j d u hd hu=>?_⟩
 .rcases hs with hs|hs
  .exact a5 b hb hs
  .cases hq:g'.up b with
   | none=>exact absurd hq (hund b hs)
   | some p=>exact .inr ((a7 b p hq).2.1 hb)
 .rcases hs with hs|hs
  .exact a6 b hs
  .cases hq:g'.up b with
   | none=>exact absurd hq (hund b hs)
   | some p=>exact (a7 b p hq).1
 .have hp:(if Und up1 Rb b then none else g'.up b)=some p:=hp
  split at hp
  .cases hp
  .rename_i hn
   obtain ⟨c1,c2,c3⟩:=a7 b p hp;exact ⟨c1,c2,fun q=>q.elim c3 hn⟩
 .cases r with
  | tup xs=>
   obtain ⟨us,rfl,n1,n2⟩:=a9;refine ⟨us,rfl,by simp [n1],fun m y u hy hu=>?_⟩
   rw [List.getElem?_map] at hy
   obtain ⟨y0,q1,rfl⟩:=Option.map_eq_some_iff.1 hy;exact cellE m y0 u (n2 m y0 u q1 hu)
  | un=>trivial
  | ag xs=>exact cellE 0 (.ag xs) v a9
  | mb _ _=>simp only [RNs,RN] at a9;cases a9
  | bx _ _=>simp only [RNs,RN] at a9;cases a9
  | el _ _ _ _=>simp only [RNs,RN] at a9;cases a9
  | bs _ _ _=>simp only [RNs,RN] at a9;cases a9
  | _=>simp only [RNs] at a9;exact cellE 0 _ v a9
 .have hR:=a10 j d u hd hu
  cases d with
  | un=>trivial
  | ag xs=>
   obtain ⟨us,rfl,n1,n2⟩:=hR;refine ⟨us,rfl,n1,fun l x z hx hz=>(n2 l x z hx hz).imp id fun q=>?_⟩
   exact Rep.move mv q (fun p hp=>by injection hp with hp;subst hp;trivial)
  | _=>exact Rep.move mv (show Rep g'.S g'.up w' (some (.par j 0)) _ u from hR) (fun p hp=>by injection hp with hp;subst hp;trivial)
theorem FCon.ice{P:Program}{f:FuncId}{args:List D}{y:D}(h:FCon P f args (fun r _=>frA r=y)):FCon P f args (fun r _=>r=y):=h.frz.mono fun _ _ ⟨_,e,q⟩=>q.trans e
theorem FCon.noout{P:Program}{f:FuncId}{args:List D}{R:D->Prop}(h:FCon P f args (fun r _=>R r)):FCon P f args (fun r o=>R r/\o=[]):=by
 refine ⟨h.ent,fun w g vs h1 h2 h3 h4=>(h.run w g vs h1 h2 h3 h4).mono ?_⟩
 rintro e w' ⟨v,g',r,o,a1,a2,a3,a4,a5,a6,a7,a8,a9,a10⟩
 exact ⟨v,g',r,[],a1,a2,a3,a4,a5,a6,a7,⟨a8,rfl⟩,a9,fun j d u q=>by simp at q⟩
theorem yI{α:Type}{f:α->List D}(h:∀ x,∀ d∈f x,Pure d)(e k:Nat)(xs:List α):Pure (.osl e k (xs.map f)):=.osl fun i j row d hi hj=>by
 rw [List.getElem?_map] at hi
 obtain ⟨y,-,rfl⟩:=Option.map_eq_some_iff.1 hi;exact h y d (List.mem_of_getElem? hj)
theorem Uw(xs:List D):Pure (.ag xs)=∀ d∈xs,Pure d:=propext ⟨fun h d hd=>by
 obtain ⟨j,hj⟩:=List.mem_iff_getElem?.1 hd;cases h with
 | ag h=>exact h j d hj,fun h=>.ag fun j d hj=>h d (List.mem_of_getElem? hj)⟩
attribute [go_sem] Uw List.forall_mem_cons List.not_mem_nil false_imp_iff
theorem FCon.wk{P:Program}{f:FuncId}{args:List D}{Rs Rs':D->List D->Prop}(h:FCon P f args Rs)(hr:∀ r o,Rs r o->∃ r',Rs' r' o/\∀ (g:Gh) (w:World) (v:Value),RNs g w r v->RNs g w r' v):FCon P f args Rs':=by
 refine ⟨h.ent,fun w g vs h1 h2 h3 h4=>(h.run w g vs h1 h2 h3 h4).mono ?_⟩
 rintro e w' ⟨v,g',r,o,a1,a2,a3,a4,a5,a6,a7,a8,a9,a10⟩
 obtain ⟨r',b1,b2⟩:=hr r o a8;exact ⟨v,g',r',o,a1,a2,a3,a4,a5,a6,a7,b1,b2 _ _ _ a9,a10⟩
theorem Rep.nil_osl{S:Nat->Prop}{up:Nat->Option Pos}{w:World}{p:Option Pos}{v:Value}(e k:Nat)(h:Rep S up w p .nil v):Rep S up w p (.osl e k []) v:=by cases h;exact .osl0
theorem Rep.nil_sl{S:Nat->Prop}{up:Nat->Option Pos}{w:World}{p:Option Pos}{v:Value}(k:Nat)(h:Rep S up w p .nil v):Rep S up w p (.sl k []) v:=by cases h;exact .sl0 (Nat.zero_le _)
structure WFx(p:Prop):Prop where
 out:p
theorem q_aqsN{M:Md}{ops:Array Oper}{fl:Nat->Nat->Bool}{K:St->Prop}{t:Tr}{acc:List (Nat×Oper)}{σ:St}(h:aqsN M ops fl K t acc σ):aqsN M ops fl K t acc σ:=h
theorem q_aops{M:Md}{ops:Array Oper}{K:St->Prop}{l:List Oper}{σ:St}(h:aops M ops K l σ):aops M ops K l σ:=h
theorem q_aft{σ:St}{dst:Option Tmp}{gs:List Gv}{K:St->Prop}{r:D}{outs:List D}(h:aft σ dst gs K r outs):aft σ dst gs K r outs:=h
theorem xc{P:Program}{f:FuncId}{ars:List D}{bs:List Nat}{K:D->List D->Prop}(h:Wl P f ars bs K):Wl P f ars bs K:=h
theorem q_CallE{P:Program}{f:FuncId}{ars:List D}{bs:List Nat}{K:D->List D->Prop}(h:CallE P f ars bs K):CallE P f ars bs K:=h
theorem xj{P:Program}{f:FuncId}{ars:List D}{bs:List Nat}{c:Bool}{wr:D->D}{σ:St}{dst:Option Tmp}{K:St->Prop}(h:CallQ P f ars bs c wr σ dst K):CallQ P f ars bs c wr σ dst K:=h
theorem ai{a b:Prop}(x:a)(y:b):a/\b:=⟨x,y⟩
theorem f0:WFx (∀ n:Nat,n+0=n):=⟨fun _=>rfl⟩
theorem zS{G R:Prop}(r:R)(h:R->G:=by
 intro r
 with_reducible first|apply q_aqsN|apply q_aops|apply ZA (.s (.bool false))|apply xE|apply Zz|apply q_aft
 simp only [go_sem,simprocAttr,hWf.out]
 fail_if_success (with_reducible refine (?_:False))
 exact r):G:=h r
theorem zE{G:Prop}(h:G:=by
 with_reducible first|apply q_aqsN|apply q_aops|apply ZA (.s (.bool false))|apply xE|apply Zz|apply q_aft
 simp only [go_sem,simprocAttr,hWf.out]
 done):G:=h
theorem zY{G R:Prop}(r:R)(h:R->G:=by
 intro r
 with_reducible first|apply q_aqsN|apply q_aops|apply ZA (.s (.bool false))|apply Zz|apply q_aft
 simp only [go_sem,simprocAttr,hWf.out]
 fail_if_success (with_reducible refine (?_:False))
 exact r):G:=h r
theorem zT{G R:Prop}(r:R)(h:R->G:=by
 intro r
 first
 | ((with_reducible apply CallQ_no);exact r)
 | (simp only [go_sem,simprocAttr,hWf.out];exact r)
 | fail):G:=h r
theorem zB0{c:Prop}{M:Md}{N:Nat}{pl:List (Nat×Plan)}{cd:Code}{K:Exit->St->Prop}{σ:St}(h:c->False:=by
 intro hb
 (try simp only [decide_eq_true_eq,decide_eq_false_iff_not,Bool.and_eq_true,Bool.or_eq_true,Bool.and_eq_false_iff,Bool.or_eq_false_iff,Bool.not_eq_true',Bool.not_eq_false',beq_iff_eq,beq_eq_false_iff_ne,bne_iff_ne,bne_eq_false_iff_eq,gt_iff_lt,ge_iff_le,Int.not_lt,Int.not_le] at hb)<;>omega):c->AC M N pl cd K σ:=fun q=>(h q).elim
theorem zB{c d:Prop}{M:Md}{N:Nat}{pl:List (Nat×Plan)}{cd:Code}{K:Exit->St->Prop}{σ:St}(k:d->AC M N pl cd K σ)(h:c->d:=by
 intro hb
 (try simp only [decide_eq_true_eq,decide_eq_false_iff_not,Bool.and_eq_true,Bool.or_eq_true,Bool.and_eq_false_iff,Bool.or_eq_false_iff,Bool.not_eq_true',Bool.not_eq_false',beq_iff_eq,beq_eq_false_iff_ne,bne_iff_ne,bne_eq_false_iff_eq,gt_iff_lt,ge_iff_le,Int.not_lt,Int.not_le] at hb)
 exact hb):c->AC M N pl cd K σ:=fun q=>k (h q)
theorem zC{G:Prop}(h:G:=by
 first
 | ((with_reducible intro hff);exact False.elim hff)
 | omega
 | (simp only [go_sem,simprocAttr,hWf.out];done)
 | (intro hg;simp only [Bool.and_eq_true,Bool.or_eq_true,Bool.not_eq_true',Bool.and_eq_false_iff,Bool.or_eq_false_iff,Bool.not_eq_false',decide_eq_true_eq,decide_eq_false_iff_not,Bool.not_not,gt_iff_lt,ge_iff_le,Int.not_lt,Int.not_le] at hg ⊢;first|omega|(simp_all;done)|fail)
 | fail):G:=h
theorem zG{P:Program}{f:FuncId}{ars:List D}{bs:List Nat}{K:D->List D->Prop}{X:D}(hF:FCon P f ars (fun r _=>r=X))(h:(bs=[]\/(Pure X/\∀ o∈([]:List D),Pure o))/\K X []):Wl P f ars bs K:=
 xu (FCon.noout (R:=fun r=>r=X) hF) (by rintro _ _ ⟨rfl,rfl⟩;exact h)
theorem zK{F G R:Prop}(c:F)(r:R)(h:F->R->G:=by
 intro c r
 first
 | ((with_reducible apply xc);exact zG c r)
 | ((with_reducible apply xj);exact xg c r)
 | fail):G:=h c r
theorem zG2{P:Program}{f:FuncId}{ars:List D}{bs:List Nat}{K:D->List D->Prop}{X:D}{Y:List D}(hF:FCon P f ars (fun r o=>r=X/\o=Y))(h:(bs=[]\/(Pure X/\∀ o∈Y,Pure o))/\K X Y):Wl P f ars bs K:=
 xu hF (by rintro _ _ ⟨rfl,rfl⟩;exact h)
theorem zH{F G R:Prop}(c:F)(r:R)(h:F->R->G:=by
 intro c r
 first
 | ((with_reducible apply xc);exact zG2 c r)
 | ((with_reducible apply xj);exact xg c r)
 | fail):G:=h c r
theorem zF0{G:Prop}(h:G:=by first|exact zE|with_reducible exact zB0|((with_reducible apply q_Meet);exact zM)|fail):G:=h
theorem zF1{G:Prop}(h:G:=by first|with_reducible exact zB0|((with_reducible apply q_Meet);exact zM)|fail):G:=h
theorem zI{G p q:Prop}(a:p)(b:q)(h:p->q->G:=by intro a b;with_reducible exact And.intro a b):G:=h a b
theorem zD{G R d:Prop}(k:d->R)(h:(d->R)->G:=by intro k;with_reducible exact zB k):G:=h k
theorem zX{F G R:Prop}(c:F)(r:R)(h:F->R->G:=by intro c r;((with_reducible apply q_CallE);exact CallE_mk c r)):G:=h c r
theorem zU{F G R:Prop}(c:F)(r:R)(h:F->R->G:=by intro c r;((with_reducible apply xj);exact xg c r)):G:=h c r
theorem FI(M:Md){f:FuncId}{fn:Func}{N:Nat}(hf:M.P.funcs[f]?=some fn)(hN:fn.ntmps=N)(pl:List (Nat×Plan)){c:Code}{rs:List ResultVar}{ars:List D}{Rs:D->List D->Prop}(hb:fn.body=some c)(hrs:fn.results=rs.toArray)(h:AC M N pl c (retK M.P rs ars Rs) (opnS 0 ars (St.ent ars)))
  (hname:(fn.name == "runtime.NumGoroutine")=false:=by kernel_rfl) (hck:chkC pl N c=true:=by decide +kernel)
  (hlen:ars.length<=N:=by simp) (hn:ars.length<=900:=by simp) (hA:lenA ars=true:=by rfl) (ho:opnB ars=true:=by first|rfl|simp only [go_sem]):FCon M.P f ars Rs:=FCon.intro M fn hf hname hb N hN hrs pl hck hlen hn hA ho h
abbrev FT:=FCon Tryz.prog
theorem w1 {p : Prop} (h : p) : WFx p := ⟨h⟩
theorem w2 {p0 p1 : Prop} (h0 : p0) (h1 : p1) : WFx (p0 ∧ p1) := ⟨⟨h0, h1⟩⟩
theorem w3 {p0 p1 p2 : Prop} (h0 : p0) (h1 : p1) (h2 : p2) : WFx (p0 ∧ p1 ∧ p2) := ⟨⟨h0, h1, h2⟩⟩
theorem w4 {p0 p1 p2 p3 : Prop} (h0 : p0) (h1 : p1) (h2 : p2) (h3 : p3) : WFx (p0 ∧ p1 ∧ p2 ∧ p3) := ⟨⟨h0, h1, h2, h3⟩⟩
theorem w5 {p0 p1 p2 p3 p4 : Prop} (h0 : p0) (h1 : p1) (h2 : p2) (h3 : p3) (h4 : p4) : WFx (p0 ∧ p1 ∧ p2 ∧ p3 ∧ p4) := ⟨⟨h0, h1, h2, h3, h4⟩⟩
theorem w6 {p0 p1 p2 p3 p4 p5 : Prop} (h0 : p0) (h1 : p1) (h2 : p2) (h3 : p3) (h4 : p4) (h5 : p5) : WFx (p0 ∧ p1 ∧ p2 ∧ p3 ∧ p4 ∧ p5) := ⟨⟨h0, h1, h2, h3, h4, h5⟩⟩
theorem w7 {p0 p1 p2 p3 p4 p5 p6 : Prop} (h0 : p0) (h1 : p1) (h2 : p2) (h3 : p3) (h4 : p4) (h5 : p5) (h6 : p6) : WFx (p0 ∧ p1 ∧ p2 ∧ p3 ∧ p4 ∧ p5 ∧ p6) := ⟨⟨h0, h1, h2, h3, h4, h5, h6⟩⟩
theorem w8 {p0 p1 p2 p3 p4 p5 p6 p7 : Prop} (h0 : p0) (h1 : p1) (h2 : p2) (h3 : p3) (h4 : p4) (h5 : p5) (h6 : p6) (h7 : p7) : WFx (p0 ∧ p1 ∧ p2 ∧ p3 ∧ p4 ∧ p5 ∧ p6 ∧ p7) := ⟨⟨h0, h1, h2, h3, h4, h5, h6, h7⟩⟩
theorem w9 {p0 p1 p2 p3 p4 p5 p6 p7 p8 : Prop} (h0 : p0) (h1 : p1) (h2 : p2) (h3 : p3) (h4 : p4) (h5 : p5) (h6 : p6) (h7 : p7) (h8 : p8) : WFx (p0 ∧ p1 ∧ p2 ∧ p3 ∧ p4 ∧ p5 ∧ p6 ∧ p7 ∧ p8) := ⟨⟨h0, h1, h2, h3, h4, h5, h6, h7, h8⟩⟩
theorem w10 {p0 p1 p2 p3 p4 p5 p6 p7 p8 p9 : Prop} (h0 : p0) (h1 : p1) (h2 : p2) (h3 : p3) (h4 : p4) (h5 : p5) (h6 : p6) (h7 : p7) (h8 : p8) (h9 : p9) : WFx (p0 ∧ p1 ∧ p2 ∧ p3 ∧ p4 ∧ p5 ∧ p6 ∧ p7 ∧ p8 ∧ p9) := ⟨⟨h0, h1, h2, h3, h4, h5, h6, h7, h8, h9⟩⟩
end
section
theorem ck_3:ck Tryz.prog 3=some (false,1,[.s (.int .i64 0)]):=by kernel_rfl
theorem un_3:Tryz.prog.underlying 3=some (.int .i64):=by kernel_rfl
theorem ck_4:ck Tryz.prog 4=some (false,1,[.s (.bool false)]):=by kernel_rfl
theorem un_4:Tryz.prog.underlying 4=some (.bool):=by kernel_rfl
theorem un_5:Tryz.prog.underlying 5=some (.int .u8):=by kernel_rfl
theorem tk_9:tk Tryz.prog 9=.sc (.s (.string ⟨#[]⟩)):=by kernel_rfl
theorem ck_9:ck Tryz.prog 9=some (false,1,[.s (.string ⟨#[]⟩)]):=by kernel_rfl
theorem un_9:Tryz.prog.underlying 9=some (.string):=by kernel_rfl
theorem tk_27:tk Tryz.prog 27=.sl 63 3 48 [.s (.string ⟨#[]⟩),.s (.int .i64 0),.nil]:=by kernel_rfl
theorem ck_27:ck Tryz.prog 27=some (false,1,[.nil]):=by kernel_rfl
theorem un_27:Tryz.prog.underlying 27=some (.slice 63):=by kernel_rfl
theorem tk_28:tk Tryz.prog 28=.sl 55 6 88 [.s (.int .i64 0),.s (.int .i64 0),.s (.int .i64 0),.s (.string ⟨#[]⟩),.nil,.nil]:=by kernel_rfl
theorem ck_28:ck Tryz.prog 28=some (false,1,[.nil]):=by kernel_rfl
theorem un_28:Tryz.prog.underlying 28=some (.slice 55):=by kernel_rfl
theorem tk_30:tk Tryz.prog 30=.st 2 [(0,1,false),(1,1,false)] [.nil,.nil]:=by kernel_rfl
theorem ck_30:ck Tryz.prog 30=some (true,2,[.nil,.nil]):=by kernel_rfl
theorem tk_36:tk Tryz.prog 36=.sl 5 1 1 [.s (.int .u8 0)]:=by kernel_rfl
theorem un_36:Tryz.prog.underlying 36=some (.slice 5):=by kernel_rfl
theorem tk_40:tk Tryz.prog 40=.sl 49 4 40 [.s (.int .i64 0),.s (.int .i64 0),.s (.int .i64 0),.s (.string ⟨#[]⟩)]:=by kernel_rfl
theorem ck_40:ck Tryz.prog 40=some (false,1,[.nil]):=by kernel_rfl
theorem un_40:Tryz.prog.underlying 40=some (.slice 49):=by kernel_rfl
theorem tk_41:tk Tryz.prog 41=.sl 89 1 24 [.nil]:=by kernel_rfl
theorem ck_41:ck Tryz.prog 41=some (false,1,[.nil]):=by kernel_rfl
theorem un_41:Tryz.prog.underlying 41=some (.slice 89):=by kernel_rfl
theorem tk_43:tk Tryz.prog 43=.st 2 [(0,1,false),(1,1,false)] [.nil,.nil]:=by kernel_rfl
theorem ck_43:ck Tryz.prog 43=some (true,2,[.nil,.nil]):=by kernel_rfl
theorem tk_49:tk Tryz.prog 49=.st 4 [(0,1,false),(1,1,false),(2,1,false),(3,1,false)] [.s (.int .i64 0),.s (.int .i64 0),.s (.int .i64 0),.s (.string ⟨#[]⟩)]:=by kernel_rfl
theorem ck_49:ck Tryz.prog 49=some (true,4,[.s (.int .i64 0),.s (.int .i64 0),.s (.int .i64 0),.s (.string ⟨#[]⟩)]):=by kernel_rfl
theorem sq_49:sqB Tryz.prog 49 [0,0,0,1]=true:=by kernel_rfl
theorem tk_53:tk Tryz.prog 53=.sl 3 1 8 [.s (.int .i64 0)]:=by kernel_rfl
theorem ck_53:ck Tryz.prog 53=some (false,1,[.nil]):=by kernel_rfl
theorem un_53:Tryz.prog.underlying 53=some (.slice 3):=by kernel_rfl
theorem tk_55:tk Tryz.prog 55=.st 6 [(0,1,false),(1,1,false),(2,1,false),(3,1,false),(4,1,false),(5,1,false)] [.s (.int .i64 0),.s (.int .i64 0),.s (.int .i64 0),.s (.string ⟨#[]⟩),.nil,.nil]:=by kernel_rfl
theorem ck_55:ck Tryz.prog 55=some (true,6,[.s (.int .i64 0),.s (.int .i64 0),.s (.int .i64 0),.s (.string ⟨#[]⟩),.nil,.nil]):=by kernel_rfl
theorem tk_56:tk Tryz.prog 56=.sl 58 7 112 [.s (.int .i64 0),.s (.int .i64 0),.s (.int .i64 0),.s (.string ⟨#[]⟩),.nil,.nil,.nil]:=by kernel_rfl
theorem ck_56:ck Tryz.prog 56=some (false,1,[.nil]):=by kernel_rfl
theorem un_56:Tryz.prog.underlying 56=some (.slice 58):=by kernel_rfl
theorem tk_58:tk Tryz.prog 58=.st 7 [(0,6,true),(6,1,false)] [.s (.int .i64 0),.s (.int .i64 0),.s (.int .i64 0),.s (.string ⟨#[]⟩),.nil,.nil,.nil]:=by kernel_rfl
theorem ck_58:ck Tryz.prog 58=some (true,7,[.s (.int .i64 0),.s (.int .i64 0),.s (.int .i64 0),.s (.string ⟨#[]⟩),.nil,.nil,.nil]):=by kernel_rfl
theorem tk_61:tk Tryz.prog 61=.sl 68 3 48 [.s (.string ⟨#[]⟩),.s (.bool false),.nil]:=by kernel_rfl
theorem ck_61:ck Tryz.prog 61=some (false,1,[.nil]):=by kernel_rfl
theorem un_61:Tryz.prog.underlying 61=some (.slice 68):=by kernel_rfl
theorem tk_63:tk Tryz.prog 63=.st 3 [(0,1,false),(1,1,false),(2,1,false)] [.s (.string ⟨#[]⟩),.s (.int .i64 0),.nil]:=by kernel_rfl
theorem ck_63:ck Tryz.prog 63=some (true,3,[.s (.string ⟨#[]⟩),.s (.int .i64 0),.nil]):=by kernel_rfl
theorem tk_64:tk Tryz.prog 64=.sl 159 3 32 [.s (.int .i64 0),.s (.string ⟨#[]⟩),.s (.int .i64 0)]:=by kernel_rfl
theorem ck_64:ck Tryz.prog 64=some (false,1,[.nil]):=by kernel_rfl
theorem un_64:Tryz.prog.underlying 64=some (.slice 159):=by kernel_rfl
theorem tk_66:tk Tryz.prog 66=.st 1 [(0,1,false)] [.nil]:=by kernel_rfl
theorem ck_66:ck Tryz.prog 66=some (true,1,[.nil]):=by kernel_rfl
theorem tk_68:tk Tryz.prog 68=.st 3 [(0,1,false),(1,1,false),(2,1,true)] [.s (.string ⟨#[]⟩),.s (.bool false),.nil]:=by kernel_rfl
theorem ck_68:ck Tryz.prog 68=some (true,3,[.s (.string ⟨#[]⟩),.s (.bool false),.nil]):=by kernel_rfl
theorem ck_72:ck Tryz.prog 72=some (false,1,[.np]):=by kernel_rfl
theorem tk_87:tk Tryz.prog 87=.sl 126 4 56 [.s (.int .i64 0),.s (.int .i64 0),.s (.string ⟨#[]⟩),.nil]:=by kernel_rfl
theorem ck_87:ck Tryz.prog 87=some (false,1,[.nil]):=by kernel_rfl
theorem un_87:Tryz.prog.underlying 87=some (.slice 126):=by kernel_rfl
theorem tk_89:tk Tryz.prog 89=.st 1 [(0,1,false)] [.nil]:=by kernel_rfl
theorem ck_89:ck Tryz.prog 89=some (true,1,[.nil]):=by kernel_rfl
theorem tk_97:tk Tryz.prog 97=.sl 9 1 16 [.s (.string ⟨#[]⟩)]:=by kernel_rfl
theorem ck_97:ck Tryz.prog 97=some (false,1,[.nil]):=by kernel_rfl
theorem un_97:Tryz.prog.underlying 97=some (.slice 9):=by kernel_rfl
theorem tk_99:tk Tryz.prog 99=.st 4 [(0,2,true),(2,1,false),(3,1,false)] [.nil,.nil,.nil,.s (.bool false)]:=by kernel_rfl
theorem tk_104:tk Tryz.prog 104=.st 5 [(0,2,true),(2,2,true),(4,1,false)] [.nil,.nil,.nil,.nil,.s (.bool false)]:=by kernel_rfl
theorem tk_126:tk Tryz.prog 126=.st 4 [(0,1,false),(1,1,false),(2,1,false),(3,1,false)] [.s (.int .i64 0),.s (.int .i64 0),.s (.string ⟨#[]⟩),.nil]:=by kernel_rfl
theorem ck_126:ck Tryz.prog 126=some (true,4,[.s (.int .i64 0),.s (.int .i64 0),.s (.string ⟨#[]⟩),.nil]):=by kernel_rfl
theorem tk_132:tk Tryz.prog 132=.sl 72 1 8 [.np]:=by kernel_rfl
theorem ck_132:ck Tryz.prog 132=some (false,1,[.nil]):=by kernel_rfl
theorem un_132:Tryz.prog.underlying 132=some (.slice 72):=by kernel_rfl
theorem tk_134:tk Tryz.prog 134=.st 6 [(0,1,false),(1,1,false),(2,1,false),(3,1,false),(4,1,false),(5,1,false)] [.s (.int .i64 0),.s (.int .i64 0),.s (.int .i64 0),.s (.string ⟨#[]⟩),.nil,.nil]:=by kernel_rfl
theorem tk_159:tk Tryz.prog 159=.st 3 [(0,1,false),(1,1,false),(2,1,false)] [.s (.int .i64 0),.s (.string ⟨#[]⟩),.s (.int .i64 0)]:=by kernel_rfl
theorem ck_159:ck Tryz.prog 159=some (true,3,[.s (.int .i64 0),.s (.string ⟨#[]⟩),.s (.int .i64 0)]):=by kernel_rfl
theorem tk_172:tk Tryz.prog 172=.sl 234 4 40 [.s (.int .i64 0),.s (.int .i64 0),.s (.string ⟨#[]⟩),.s (.int .i64 0)]:=by kernel_rfl
theorem ck_172:ck Tryz.prog 172=some (false,1,[.nil]):=by kernel_rfl
theorem un_172:Tryz.prog.underlying 172=some (.slice 234):=by kernel_rfl
theorem tk_177:tk Tryz.prog 177=.st 7 [(0,1,false),(1,1,false),(2,1,false),(3,1,false),(4,1,false),(5,1,false),(6,1,false)] [.nil,.s (.int .i64 0),.s (.int .i64 0),.s (.int .i64 0),.s (.int .i64 0),.nil,.nil]:=by kernel_rfl
theorem tk_234:tk Tryz.prog 234=.st 4 [(0,1,false),(1,1,false),(2,1,false),(3,1,false)] [.s (.int .i64 0),.s (.int .i64 0),.s (.string ⟨#[]⟩),.s (.int .i64 0)]:=by kernel_rfl
theorem ck_234:ck Tryz.prog 234=some (true,4,[.s (.int .i64 0),.s (.int .i64 0),.s (.string ⟨#[]⟩),.s (.int .i64 0)]):=by kernel_rfl
theorem tk_271:tk Tryz.prog 271=.sl 66 1 24 [.nil]:=by kernel_rfl
theorem un_271:Tryz.prog.underlying 271=some (.slice 66):=by kernel_rfl
theorem tk_273:tk Tryz.prog 273=.sl 275 5 80 [.s (.int .i64 0),.s (.int .i64 0),.s (.string ⟨#[]⟩),.nil,.nil]:=by kernel_rfl
theorem ck_273:ck Tryz.prog 273=some (false,1,[.nil]):=by kernel_rfl
theorem un_273:Tryz.prog.underlying 273=some (.slice 275):=by kernel_rfl
theorem tk_275:tk Tryz.prog 275=.st 5 [(0,4,true),(4,1,false)] [.s (.int .i64 0),.s (.int .i64 0),.s (.string ⟨#[]⟩),.nil,.nil]:=by kernel_rfl
theorem ck_275:ck Tryz.prog 275=some (true,5,[.s (.int .i64 0),.s (.int .i64 0),.s (.string ⟨#[]⟩),.nil,.nil]):=by kernel_rfl
theorem mixed:Tryz.prog.follows .mixedOrders=true:=by kernel_rfl
def mdT:FuncId->List Nat
 | 7=>[2]
 | 11=>[1,0]
 | 19=>[2]
 | 24=>[1,1]
 | 25=>[2]
 | 30=>[1,0]
 | 35=>[1,0]
 | 36=>[1,0]
 | 40=>[1]
 | 53=>[1,0]
 | 55=>[1,0]
 | 56=>[1,0]
 | 57=>[1,0,2]
 | 58=>[1,0,0,0,0]
 | 72=>[2]
 | 77=>[1,0]
 | 87=>[1,0]
 | 88=>[1,0]
 | 89=>[1,0]
 | 93=>[1]
 | 94=>[1]
 | 126=>[1]
 | 129=>[1]
 | 130=>[1,0]
 | 131=>[1,0]
 | 133=>[1,0]
 | 134=>[1,0,0,2]
 | 135=>[1,0,2]
 | 136=>[1,0]
 | 137=>[1,0]
 | 139=>[1,0,0]
 | 140=>[1,0,0,2]
 | 143=>[1,0,2]
 | 154=>[0,0,0,1]
 | 155=>[1,0,0,0]
 | 169=>[1,0]
 | 170=>[1,0]
 | 173=>[1]
 | 174=>[1]
 | 175=>[1]
 | 199=>[1]
 | 200=>[1,0]
 | 201=>[1,0]
 | 202=>[1,0]
 | 203=>[1,0]
 | 205=>[1,0,0]
 | 206=>[1,0]
 | 211=>[1,0,0]
 | 231=>[1,0]
 | 232=>[1]
 | 233=>[1]
 | 241=>[1,0]
 | 245=>[1,0]
 | 246=>[1,2]
 | 247=>[1,0]
 | 259=>[1,0]
 | 261=>[1]
 | 264=>[1,0]
 | 265=>[1,0,0]
 | 272=>[1,0]
 | 276=>[1,0]
 | 277=>[1,0]
 | _=>[]
noncomputable def PM:Md:=⟨Tryz.prog,mdT,mixed,false,fun _=>false⟩
theorem PM_P:PM.P=Tryz.prog:=rfl
theorem PM_lr(i:Nat):PM.lr i=false:=rfl
/-- the same;the guards of the regions l are known. -/
noncomputable def PMr(l:List Nat):Md:=⟨Tryz.prog,mdT,mixed,false,litB l⟩
theorem PMr_P(l:List Nat):(PMr l).P=Tryz.prog:=rfl
theorem PMr_lr(l:List Nat)(i:Nat):(PMr l).lr i=litB l i:=rfl
theorem PMr_md(l:List Nat):(PMr l).md=PM.md:=rfl
theorem md_3:PM.md 3=[]:=rfl
theorem md_4:PM.md 4=[]:=rfl
theorem md_5:PM.md 5=[]:=rfl
theorem md_9:PM.md 9=[]:=rfl
theorem md_14:PM.md 14=[]:=rfl
theorem md_15:PM.md 15=[]:=rfl
theorem md_17:PM.md 17=[]:=rfl
theorem md_18:PM.md 18=[]:=rfl
theorem md_19:PM.md 19=[2]:=rfl
theorem md_20:PM.md 20=[]:=rfl
theorem md_21:PM.md 21=[]:=rfl
theorem md_24:PM.md 24=[1,1]:=rfl
theorem md_27:PM.md 27=[]:=rfl
theorem md_28:PM.md 28=[]:=rfl
theorem md_30:PM.md 30=[1,0]:=rfl
theorem md_31:PM.md 31=[]:=rfl
theorem md_36:PM.md 36=[1,0]:=rfl
theorem md_39:PM.md 39=[]:=rfl
theorem md_40:PM.md 40=[1]:=rfl
theorem md_41:PM.md 41=[]:=rfl
theorem md_42:PM.md 42=[]:=rfl
theorem md_43:PM.md 43=[]:=rfl
theorem md_44:PM.md 44=[]:=rfl
theorem md_45:PM.md 45=[]:=rfl
theorem md_46:PM.md 46=[]:=rfl
theorem md_47:PM.md 47=[]:=rfl
theorem md_48:PM.md 48=[]:=rfl
theorem md_49:PM.md 49=[]:=rfl
theorem md_50:PM.md 50=[]:=rfl
theorem md_53:PM.md 53=[1,0]:=rfl
theorem md_54:PM.md 54=[]:=rfl
theorem md_55:PM.md 55=[1,0]:=rfl
theorem md_56:PM.md 56=[1,0]:=rfl
theorem md_57:PM.md 57=[1,0,2]:=rfl
theorem md_58:PM.md 58=[1,0,0,0,0]:=rfl
theorem md_59:PM.md 59=[]:=rfl
theorem md_60:PM.md 60=[]:=rfl
theorem md_61:PM.md 61=[]:=rfl
theorem md_62:PM.md 62=[]:=rfl
theorem md_63:PM.md 63=[]:=rfl
theorem md_64:PM.md 64=[]:=rfl
theorem md_65:PM.md 65=[]:=rfl
theorem md_66:PM.md 66=[]:=rfl
theorem md_67:PM.md 67=[]:=rfl
theorem md_68:PM.md 68=[]:=rfl
theorem md_69:PM.md 69=[]:=rfl
theorem md_72:PM.md 72=[2]:=rfl
theorem md_79:PM.md 79=[]:=rfl
theorem md_87:PM.md 87=[1,0]:=rfl
theorem md_89:PM.md 89=[1,0]:=rfl
theorem md_93:PM.md 93=[1]:=rfl
theorem md_94:PM.md 94=[1]:=rfl
theorem md_95:PM.md 95=[]:=rfl
theorem md_96:PM.md 96=[]:=rfl
theorem md_97:PM.md 97=[]:=rfl
theorem md_98:PM.md 98=[]:=rfl
theorem md_99:PM.md 99=[]:=rfl
theorem md_100:PM.md 100=[]:=rfl
theorem md_101:PM.md 101=[]:=rfl
theorem md_102:PM.md 102=[]:=rfl
theorem md_103:PM.md 103=[]:=rfl
theorem md_104:PM.md 104=[]:=rfl
theorem md_105:PM.md 105=[]:=rfl
theorem md_106:PM.md 106=[]:=rfl
theorem md_107:PM.md 107=[]:=rfl
theorem md_108:PM.md 108=[]:=rfl
theorem md_109:PM.md 109=[]:=rfl
theorem md_110:PM.md 110=[]:=rfl
theorem md_111:PM.md 111=[]:=rfl
theorem md_112:PM.md 112=[]:=rfl
theorem md_113:PM.md 113=[]:=rfl
theorem md_114:PM.md 114=[]:=rfl
theorem md_115:PM.md 115=[]:=rfl
theorem md_126:PM.md 126=[1]:=rfl
theorem md_127:PM.md 127=[]:=rfl
theorem md_128:PM.md 128=[]:=rfl
theorem md_129:PM.md 129=[1]:=rfl
theorem md_130:PM.md 130=[1,0]:=rfl
theorem md_131:PM.md 131=[1,0]:=rfl
theorem md_132:PM.md 132=[]:=rfl
theorem md_133:PM.md 133=[1,0]:=rfl
theorem md_134:PM.md 134=[1,0,0,2]:=rfl
theorem md_135:PM.md 135=[1,0,2]:=rfl
theorem md_136:PM.md 136=[1,0]:=rfl
theorem md_137:PM.md 137=[1,0]:=rfl
theorem md_138:PM.md 138=[]:=rfl
theorem md_139:PM.md 139=[1,0,0]:=rfl
theorem md_140:PM.md 140=[1,0,0,2]:=rfl
theorem md_141:PM.md 141=[]:=rfl
theorem md_142:PM.md 142=[]:=rfl
theorem md_143:PM.md 143=[1,0,2]:=rfl
theorem md_144:PM.md 144=[]:=rfl
theorem md_145:PM.md 145=[]:=rfl
theorem md_146:PM.md 146=[]:=rfl
theorem md_147:PM.md 147=[]:=rfl
theorem md_148:PM.md 148=[]:=rfl
theorem md_149:PM.md 149=[]:=rfl
theorem md_150:PM.md 150=[]:=rfl
theorem md_154:PM.md 154=[0,0,0,1]:=rfl
theorem md_159:PM.md 159=[]:=rfl
theorem md_162:PM.md 162=[]:=rfl
theorem md_172:PM.md 172=[]:=rfl
theorem md_173:PM.md 173=[1]:=rfl
theorem md_174:PM.md 174=[1]:=rfl
theorem md_175:PM.md 175=[1]:=rfl
theorem md_176:PM.md 176=[]:=rfl
theorem md_177:PM.md 177=[]:=rfl
theorem md_178:PM.md 178=[]:=rfl
theorem md_179:PM.md 179=[]:=rfl
theorem md_180:PM.md 180=[]:=rfl
theorem md_181:PM.md 181=[]:=rfl
theorem md_182:PM.md 182=[]:=rfl
theorem md_183:PM.md 183=[]:=rfl
theorem md_184:PM.md 184=[]:=rfl
theorem md_185:PM.md 185=[]:=rfl
theorem md_186:PM.md 186=[]:=rfl
theorem md_187:PM.md 187=[]:=rfl
theorem md_190:PM.md 190=[]:=rfl
theorem md_191:PM.md 191=[]:=rfl
theorem md_192:PM.md 192=[]:=rfl
theorem md_193:PM.md 193=[]:=rfl
theorem md_194:PM.md 194=[]:=rfl
theorem md_195:PM.md 195=[]:=rfl
theorem md_196:PM.md 196=[]:=rfl
theorem md_197:PM.md 197=[]:=rfl
theorem md_198:PM.md 198=[]:=rfl
theorem md_199:PM.md 199=[1]:=rfl
theorem md_200:PM.md 200=[1,0]:=rfl
theorem md_201:PM.md 201=[1,0]:=rfl
theorem md_202:PM.md 202=[1,0]:=rfl
theorem md_203:PM.md 203=[1,0]:=rfl
theorem md_204:PM.md 204=[]:=rfl
theorem md_205:PM.md 205=[1,0,0]:=rfl
theorem md_206:PM.md 206=[1,0]:=rfl
theorem md_207:PM.md 207=[]:=rfl
theorem md_208:PM.md 208=[]:=rfl
theorem md_220:PM.md 220=[]:=rfl
theorem md_221:PM.md 221=[]:=rfl
theorem md_230:PM.md 230=[]:=rfl
theorem md_231:PM.md 231=[1,0]:=rfl
theorem md_232:PM.md 232=[1]:=rfl
theorem md_233:PM.md 233=[1]:=rfl
theorem md_234:PM.md 234=[]:=rfl
theorem md_235:PM.md 235=[]:=rfl
theorem md_236:PM.md 236=[]:=rfl
theorem md_237:PM.md 237=[]:=rfl
theorem md_238:PM.md 238=[]:=rfl
theorem md_239:PM.md 239=[]:=rfl
theorem md_240:PM.md 240=[]:=rfl
theorem md_241:PM.md 241=[1,0]:=rfl
theorem md_242:PM.md 242=[]:=rfl
theorem md_243:PM.md 243=[]:=rfl
theorem md_244:PM.md 244=[]:=rfl
theorem md_245:PM.md 245=[1,0]:=rfl
theorem md_246:PM.md 246=[1,2]:=rfl
theorem md_247:PM.md 247=[1,0]:=rfl
theorem md_250:PM.md 250=[]:=rfl
theorem md_256:PM.md 256=[]:=rfl
theorem md_257:PM.md 257=[]:=rfl
theorem md_258:PM.md 258=[]:=rfl
theorem md_259:PM.md 259=[1,0]:=rfl
theorem md_260:PM.md 260=[]:=rfl
theorem md_261:PM.md 261=[1]:=rfl
theorem md_262:PM.md 262=[]:=rfl
theorem md_263:PM.md 263=[]:=rfl
theorem md_264:PM.md 264=[1,0]:=rfl
theorem md_265:PM.md 265=[1,0,0]:=rfl
theorem md_271:PM.md 271=[]:=rfl
theorem md_272:PM.md 272=[1,0]:=rfl
theorem md_273:PM.md 273=[]:=rfl
theorem md_275:PM.md 275=[]:=rfl
theorem md_276:PM.md 276=[1,0]:=rfl
theorem md_277:PM.md 277=[1,0]:=rfl
attribute [go_sem] PM_P PM_lr PMr_P PMr_lr PMr_md Md.at_P Md.at_md Md.at_lit litB_nil litB_cons tk_9 tk_27 tk_28 tk_30 tk_36 tk_40 tk_41 tk_43 tk_49 tk_53 tk_55 tk_56 tk_58 tk_61 tk_63 tk_64 tk_66 tk_68 tk_87 tk_89 tk_97 tk_99 tk_104 tk_126 tk_132 tk_134 tk_159 tk_172 tk_177 tk_234 tk_271 tk_273 tk_275 ck_3 ck_4 ck_9 ck_27 ck_28 ck_30 ck_40 ck_41 ck_43 ck_49 ck_53 ck_55 ck_56 ck_58 ck_61 ck_63 ck_64 ck_66 ck_68 ck_72 ck_87 ck_89 ck_97 ck_126 ck_132 ck_159 ck_172 ck_234 ck_273 ck_275 un_3 un_4 un_5 un_9 un_27 un_28 un_36 un_40 un_41 sq_49 un_53 un_56 un_61 un_64 un_87 un_97 un_132 un_172 un_271 un_273 md_3 md_4 md_5 md_9 md_14 md_15 md_17 md_18 md_19 md_20 md_21 md_24 md_27 md_28 md_30 md_31 md_36 md_39 md_40 md_41 md_42 md_43 md_44 md_45 md_46 md_47 md_48 md_49 md_50 md_53 md_54 md_55 md_56 md_57 md_58 md_59 md_60 md_61 md_62 md_63 md_64 md_65 md_66 md_67 md_68 md_69 md_72 md_79 md_87 md_89 md_93 md_94 md_95 md_96 md_97 md_98 md_99 md_100 md_101 md_102 md_103 md_104 md_105 md_106 md_107 md_108 md_109 md_110 md_111 md_112 md_113 md_114 md_115 md_126 md_127 md_128 md_129 md_130 md_131 md_132 md_133 md_134 md_135 md_136 md_137 md_138 md_139 md_140 md_141 md_142 md_143 md_144 md_145 md_146 md_147 md_148 md_149 md_150 md_154 md_159 md_162 md_172 md_173 md_174 md_175 md_176 md_177 md_178 md_179 md_180 md_181 md_182 md_183 md_184 md_185 md_186 md_187 md_190 md_191 md_192 md_193 md_194 md_195 md_196 md_197 md_198 md_199 md_200 md_201 md_202 md_203 md_204 md_205 md_206 md_207 md_208 md_220 md_221 md_230 md_231 md_232 md_233 md_234 md_235 md_236 md_237 md_238 md_239 md_240 md_241 md_242 md_243 md_244 md_245 md_246 md_247 md_250 md_256 md_257 md_258 md_259 md_260 md_261 md_262 md_263 md_264 md_265 md_271 md_272 md_273 md_275 md_276 md_277
end
section
open Go.RowKit Go.ChangeShapes Go.WideShapes
def WE(W:World):Nat->Prop:=fun b=>b<W.heap.size
abbrev upW:Nat->Option Pos:=fun _=>none
def RepL(S:Nat->Prop)(up:Nat->Option Pos)(w:World)(ds:List D)(us:List Value):Prop:=us.length=ds.length/\∀ (j:Nat) (d:D) (u:Value),ds[j]?=some d->us[j]?=some u->Rep S up w none d u
theorem cell_lt{W:World}{b o:Nat}{v:Value}(h:W.cell? ⟨b,o,none⟩=some v):b<W.heap.size:=by
 rcases Nat.lt_or_ge b W.heap.size with q|q
 .exact q
 .simp [World.cell?,Array.getElem?_eq_none q] at h
theorem CellsAt.cellW{W:World}{b off:Nat}{r:List Value}(h:CellsAt (hp W) b off r){j:Nat}{u:Value}(hj:r[j]?=some u):W.cell? ⟨b,off+j,none⟩=some u:=by
 have hlt:=(List.getElem?_eq_some_iff.1 hj).1;rw [h.cell (Sub.self W) hlt,<- hj,List.getElem?_eq_getElem hlt]
theorem SlOf.rep{α:Type}{enc:α->List D}{ok:α->Prop}{k:Nat}{W:World}{R:Hp->List Value->α->Prop}(hR:∀ r x,R (hp W) r x->RepL (WE W) upW W (enc x) r/\ok x){v:Value}{xs:List α}(h:SlOf k R (hp W) v xs) :
  Rep (WE W) upW W none (.sl k (xs.map enc)) v/\∀ x∈xs,ok x:=by
 obtain ⟨a,c,rfl,h1,h2,rfl|⟨b,off,rfl,hc⟩⟩:=h
 .exact ⟨.sl0 h2,fun x hx=>by cases hx⟩
 .have key:∀ i (hi:i<xs.length),∃ r:List Value,r.length=k/\(∀ (j:Nat) (u:Value),r[j]?=some u->W.cell? ⟨b,off+i*k+j,none⟩=some u)/\RepL (WE W) upW W (enc xs[i]) r/\ok xs[i]:=by
   intro i hi;obtain ⟨r,r1,r2,r3⟩:=hc i hi;exact ⟨r,r1,fun j u hj=>r2.cellW hj,hR _ _ r3⟩
  refine ⟨?_,fun x hx=>?_⟩
  .have hrows:∀ (i:Nat) (row:List D),(xs.map enc)[i]?=some row->∃ hi:i<xs.length,row=enc xs[i]:=by
    intro i row h;rw [List.getElem?_map] at h
    cases hx:xs[i]? with
    | none=>rw [hx] at h;cases h
    | some y=>
     rw [hx] at h
     injection h with h
     obtain ⟨hi,e⟩:=List.getElem?_eq_some_iff.1 hx;exact ⟨hi,by rw [<- h,<- e]⟩
   have hcell:∀ (i j:Nat) (row:List D) (d:D),(xs.map enc)[i]?=some row->row[j]?=some d->∃ u,W.cell? ⟨b,off+i*k+j,none⟩=some u/\Rep (WE W) upW W none d u:=by
    intro i j row d hi hj;obtain ⟨hi',rfl⟩:=hrows i row hi;obtain ⟨r,r1,r2,r3,-⟩:=key i hi';have hlt:j<r.length:=by rw [r3.1];exact (List.getElem?_eq_some_iff.1 hj).1
    exact ⟨r[j],r2 j _ (List.getElem?_eq_getElem hlt),r3.2 j d _ hj (List.getElem?_eq_getElem hlt)⟩
   have hlen:xs.length=(xs.map enc).length:=by simp
   rw [hlen];refine Rep.sl (fun i j=>(W.cell? ⟨b,off+i*k+j,none⟩).getD undef) (by rw [<- hlen];exact h1) h2 (fun i row hi=>?_) (fun i j row d hi hj=>?_) (fun i j row d hi hj=>?_)
   .obtain ⟨hi',rfl⟩:=hrows i row hi
    obtain ⟨r,r1,r2,r3,-⟩:=key i hi';rw [<- r3.1,r1]
   .obtain ⟨u,hu,hr⟩:=hcell i j row d hi hj
    exact ⟨cell_lt hu,by rw [hu];rfl⟩
   .obtain ⟨u,hu,hr⟩:=hcell i j row d hi hj
    rw [hu];exact hr
  .obtain ⟨i,hi,rfl⟩:=List.getElem_of_mem hx
   obtain ⟨r,_,_,_,h⟩:=key i hi;exact h
theorem Rep.slOf{α:Type}{enc:α->List D}{k:Nat}{S:Nat->Prop}{up:Nat->Option Pos}{W:World}{R:Hp->List Value->α->Prop}{xs:List α}(hk:∀ x∈xs,(enc x).length=k)(hk0:0<k)(hR:∀ r x,x∈xs->RepL S up W (enc x) r->R (hp W) r x){v:Value}(h:Rep S up W none (.sl k (xs.map enc)) v):SlOf k R (hp W) v xs:=by
 generalize hrows:xs.map enc=rows at h
 cases h with
 | sl0 hc=>
  have:xs=[]:=by cases xs with|nil=>rfl|cons _ _=>simp at hrows
  subst this;exact ⟨_,_,rfl,Nat.zero_le _,hc,.inl rfl⟩
 | @sl _ _ _ b off c us c1 c2 c3 c4 c5=>
  subst hrows;refine ⟨_,c,by simp,by simpa using c1,c2,.inr ⟨b,off,rfl,fun i hi=>?_⟩⟩
  have hg:(xs.map enc)[i]?=some (enc xs[i]):=by rw [List.getElem?_map,List.getElem?_eq_getElem hi];rfl
  have hl:=hk xs[i] (List.getElem_mem hi);have hlr:((List.range k).map (us i)).length=k:=by simp
  refine ⟨(List.range k).map (us i),hlr,UW (by omega) (fun j hj=>?_),hR _ _ (List.getElem_mem hi) ⟨by simp [hl],fun j d u hd hu=>?_⟩⟩
  .have hjk:j<k:=by omega
   have:=(c4 i j _ ((enc xs[i])[j]'(by omega)) hg (List.getElem?_eq_getElem _)).2
   rw [this]
   simp [hjk]
  .have hjk:j<k:=by rw [<- hl];exact (List.getElem?_eq_some_iff.1 hd).1
   have hu':us i j=u:=by simpa [hjk] using hu
   subst hu';exact c5 i j _ d hg hd
def RB(S:Nat->Prop)(up:Nat->Option Pos)(w:World):D->Value->Prop
 | .ag xs,v=>∃ us:List Value,v=.agg us.toArray/\RepL S up w xs us
 | d,v=>Rep S up w none d v
def lentB:D->Bool
 | .ag xs=>xs.all fun y=>!ownB y
 | d=>!ownB d
theorem Rep.lent{S:Nat->Prop}{up:Nat->Option Pos}{w:World}{p:Option Pos}{d:D}{v:Value}(h:Rep S up w p d v)(hd:ownB d=false):Rep S up w none d v:=h.free (fun _ _ _ q=>by subst q;cases hd) (fun _ q=>by subst q;cases hd) none
theorem RA.lent{g:Gh}{w:World}{j:Nat}{d:D}{v:Value}(h:RA g w j d v)(hd:lentB d=true):RB g.S g.up w d v:=by
 cases d with
 | ag xs=>
  obtain ⟨us,rfl,u1,u2⟩:=h;refine ⟨us,rfl,u1,fun l x u hx hu=>(u2 l x u hx hu).lent ?_⟩
  have:=List.all_eq_true.1 hd x (List.mem_of_getElem? hx)
  simpa using this
 | un=>simp only [RA] at h;cases h
 | tup _=>simp only [RA] at h;cases h
 | mb _ _=>simp only [RA] at h;cases h
 | bx _ _=>simp only [RA] at h;cases h
 | el _ _ _ _=>simp only [RA] at h;cases h
 | bs _ _ _=>simp only [RA] at h;cases h
 | osl _ _ _=>cases hd
 | opt _=>cases hd
 | _=>simp only [RA] at h;exact h.lent rfl
theorem FCon.ofBelow {P:Program} {f:FuncId} {fn:Func} {c:Code} (hf:P.funcs[f]?=some fn) (hname:(fn.name == "runtime.NumGoroutine")=false) (hb:fn.body=some c) {ars:List D} {Rv:Value->Prop} {Rs:D->List D->Prop} (hR:∀ v,Rv v->v.oneCell'=true/\Rs (.s v) []) (hl:ars.all lentB=true)
  (h:∀ (w:World) (S:Nat->Prop) (up:Nat->Option Pos) (vs:List Value),vs.length=ars.length->(∀ (j:Nat) (b:D) (u:Value),ars[j]?=some b->vs[j]?=some u->RB S up w b u)->Calls P f vs.toArray w (fun e w'=>∃ v,e=.returned v/\Rv v/\Below w.heap.size w w')):FCon P f ars Rs:=by
 refine ⟨fun vs w=>?_,fun w g vs hS hu hl' hv=>(h w g.S g.up vs hl' (fun j b u q1 q2=>(hv j b u q1 q2).lent (List.all_eq_true.1 hl b (List.mem_of_getElem? q1)))).mono ?_⟩
 .have hname':¬ fn.name = "runtime.NumGoroutine" := by simpa using hname
  have hbn:¬ fn.body=none:=by rw [hb];simp
  simp [callFunc,hf,hname',hbn]
 .rintro e w' ⟨v,rfl,hv,hbel⟩
  obtain ⟨h1,h2⟩:=hR v hv;exact ⟨v,⟨fun _=>none,fun _=>0,fun _=>none,g.S⟩,_,[],rfl,⟨hbel.os,hbel.tape,hbel.output,hbel.size,fun k hk=>by omega⟩,fun b hb' _=>hbel.block b hb',fun _ q=>q,fun _ _ q=>.inl q,fun b q=>Nat.lt_of_lt_of_le (hS b q) hbel.size,fun b p q=>(by cases q),h2,Rep.s h1,fun j d u q=>(by simp at q)⟩
theorem Xf{P:Nat->D->Value->Prop}{b:D}{vs:List Value}(hl:vs.length=[b].length)(h:∀ (j:Nat) (c:D) (u:Value),[b][j]?=some c->vs[j]?=some u->P j c u):∃ v,vs=[v]/\P 0 b v:=by
 match vs,hl with
 | [v],_=>exact ⟨v,rfl,h 0 b v rfl rfl⟩
theorem RepL.nil{S:Nat->Prop}{up:Nat->Option Pos}{W:World}:RepL S up W [] []:=⟨rfl,fun j d u h=>by simp at h⟩
theorem RepL.cons{S:Nat->Prop}{up:Nat->Option Pos}{W:World}{d:D}{u:Value}{ds:List D}{us:List Value}(h:Rep S up W none d u)(t:RepL S up W ds us):RepL S up W (d::ds) (u::us):=⟨by simp [t.1],fun j d' u' h1 h2=>by
 cases j with
 | zero=>simp at h1 h2;subst h1 h2;exact h
 | succ j=>exact t.2 j d' u' (by simpa using h1) (by simpa using h2)⟩
def RdE{α:Type}(t:TypeId)(k:Nat)(enc:α->List D)(ok:α->Prop):Prop:=
 Tryz.prog.cellsOf t=k/\∀ (H:Type) (en:TypeId×Value->H) (W:World) (n:Nat) (cs:List Value) (x:DataW H×List MemPlace),Rd en Tryz.prog W n t cs x->∃ a:α,RepL (WE W) upW W (enc a) cs/\ok a
theorem xaB{S:Nat->Prop}{up:Nat->Option Pos}{W:World}{d:D}{v:Value}(h:Rep S up W none d v):RepL S up W [d] [v]:=RepL.cons h (RepL.nil)
theorem RdE.slice{α:Type}{t e:TypeId}{k:Nat}{enc:α->List D}{ok:α->Prop}(hu:Tryz.prog.underlying t=some (.slice e))(hc:Tryz.prog.cellsOf t=1)(hk:0<k)(h:RdE e k enc ok):RdE t 1 (fun xs:List α=>[.sl k (xs.map enc)]) (fun xs=>∀ x∈xs,ok x):=by
 refine ⟨hc,fun H en W n cs x hr=>?_⟩
 obtain ⟨v,xs,rfl,hs⟩:=rd_slice k (fun hh r (x:α)=>hh=hp W/\RepL (WE W) upW W (enc x) r/\ok x) hu h.1 hk (fun n cs' y hy=>by
  obtain ⟨a,h1,h2⟩:=h.2 H en W n cs' y hy;exact ⟨a,rfl,h1,h2⟩) hr
 obtain ⟨h1,h2⟩:=SlOf.rep (enc:=enc) (ok:=ok) (fun r x hr=>hr.2) hs
 exact ⟨xs,xaB h1,h2⟩
theorem args1{P:D->Value->Prop}{b0:D}{v0:Value}(h0:P b0 v0):∀ (j:Nat) (b:D) (u:Value),[b0][j]?=some b->[v0][j]?=some u->P b u
 | 0,_,_,rfl,rfl=>h0
end
section
open Go.RowKit
def St.nilE(σ:St)(id:Nat)(row:List D)(c nm e k:Nat):St:=((σ.sc (pOut [nm]) (pOut [nm])).setB id (.box ((row.map (scC (pOut [nm]))).set c (.bs nm k 0)))).setB nm (.arr e k [])
theorem Rel.nilE{x:Cx}{g:Gh}{σ:St}{a:Act}{w:World}(h:Rel x g σ a w){id c nm:Nat}{row:List D}(e k:Nat)(hb:σ.b id=some (.box row))(hc:row[c]?=some .nil)(hne:nm≠id)(hnP:isP nm=false):∃ g',Rel x g' (σ.nilE id row c nm e k) a w:=by
 let g':Gh:=⟨fun j=>if j=nm then none else g.β j,fun j=>if j=nm then 0 else g.κ j,g.up,g.S⟩
 have ev:Ev (fun p=>p≠.root nm) (fun p=>p) (pOut [nm]) (pOut [nm]) g g' w w:=by
  refine ⟨⟨fun b hb=>⟨hb,rfl⟩,fun b p hp _=>⟨hp,rfl⟩,fun b p o _ _=>⟨by simp,rfl⟩⟩,fun j hj=>?_,fun j hj=>?_⟩
  .have:=xC hj nm (by simp)
   exact ⟨if_neg this,if_neg this⟩
  .have:=xC hj nm (by simp)
   exact ⟨hj,fun q=>by injection q with q;exact this q,rfl⟩
 have hR:=h.ev ev (Below.refl _ _) (fun b _ _=>rfl) (fun b _ hs=>.inl hs) h.new h.own
 have hid:pOut [nm] id=true:=by simp [pOut];exact fun q=>hne q.symm
 have hbx:(σ.sc (pOut [nm]) (pOut [nm])).b id=some (.box (row.map (scC (pOut [nm])))):=by
  show (if pOut [nm] id=true then (σ.b id).map (scO (pOut [nm])) else none)=_
  rw [if_pos hid,hb];rfl
 obtain ⟨b,cs,ty,e1,e2,e3,e4,e5⟩:=hR.ob id _ hbx;have hcl:c<row.length:=(List.getElem?_eq_some_iff.1 hc).1;refine ⟨g',(hR.setB (id:=id) (o:=.box ((row.map (scC (pOut [nm]))).set c (.bs nm k 0))) ⟨b,cs,ty,e1,e2,e3,by simpa using e4,fun j d hj=>?_⟩ (fun hp=>hR.par id _ hbx hp)).setB (id:=nm) ?_ (fun hp=>by rw [hnP] at hp;cases hp)⟩
 .rw [List.getElem?_set] at hj
  split at hj
  .rename_i q;subst q
   rw [if_pos (by simpa using hcl)] at hj
   injection hj with hj;subst hj
   have h0:=e5 c .nil (by rw [List.getElem?_map,hc];rfl)
   have h0:Rep g'.S g'.up w (some (.cell b c)) .nil (cs.getD c undef):=h0;generalize cs.getD c undef=v at h0
   cases h0;have hβ:g'.β nm=none:=if_pos rfl;have hκ:g'.κ nm=0:=if_pos rfl;exact ⟨by rw [hβ,hκ];rfl,Nat.zero_le _,by rw [hκ];exact Nat.zero_le _,fun _=>hκ⟩
  .exact e5 j d hj
 .have hβ:g'.β nm=none:=if_pos rfl
  have hκ:g'.κ nm=0:=if_pos rfl;show Rep g'.S g'.up w (some (.root nm)) (.osl e k []) (.slice ((g'.β nm).map fun b=>⟨b,0,none⟩) 0 (g'.κ nm))
  rw [hβ,hκ];exact .osl0
theorem Wk_nil{M:Md}{N:Nat}{σ:St}(id c nm:Nat){row:List D}(e k:Nat)(hb:σ.b id=some (.box row))(hc:row[c]?=some .nil)(hne:nm≠id)(hnP:isP nm=false):Wk M N σ (σ.nilE id row c nm e k):=fun x g a w _ _ hr=>hr.nilE e k hb hc hne hnP
theorem zJ{M:Md}{N:Nat}{pl:List (Nat×Plan)}{K:Exit->St->Prop}{σ:St}{cd:Code}(id c nm:Nat){row:List D}(e k:Nat)(hb:σ.b id=some (.box row))(hc:row[c]?=some .nil)(hne:nm≠id)(hnP:isP nm=false)(h:AC M N pl cd K (σ.nilE id row c nm e k)):AC M N pl cd K σ:=vT (Wk_nil id c nm e k hb hc hne hnP) h
theorem nilE_t(σ:St)(id:Nat)(row:List D)(c nm e k j:Nat):(σ.nilE id row c nm e k).t j=scT (pOut [nm]) (σ.t j):=rfl
theorem nilE_b(σ:St)(id:Nat)(row:List D)(c nm e k j:Nat):(σ.nilE id row c nm e k).b j=if j=nm then some (.arr e k []) else if j=id then some (.box ((row.map (scC (pOut [nm]))).set c (.bs nm k 0))) else if pOut [nm] j=true then (σ.b j).map (scO (pOut [nm])) else none:=rfl
attribute [go_sem] nilE_t nilE_b
theorem FCon.arg{P:Program}{f:FuncId}{args:List D}{Rs:D->List D->Prop}(h:FCon P f args Rs)(args':List D)(hl:args'.length=args.length)(ha:∀ (j:Nat) (d' d:D),args'[j]?=some d'->args[j]?=some d->∀ (g:Gh) (w:World) (u:Value),RA g w j d' u->RA g w j d u):FCon P f args' Rs:=
 ⟨h.ent,fun w g vs h1 h2 h3 h4=>h.run w g vs h1 h2 (h3.trans hl) fun j d u hd hu=>by
  have hj:j<args'.length:=by rw [hl];exact (List.getElem?_eq_some_iff.1 hd).1
  exact ha j _ d (List.getElem?_eq_getElem hj) hd g w u (h4 j _ u (List.getElem?_eq_getElem hj) hu)⟩
theorem RA_nilS{g:Gh}{w:World}{j k:Nat}{u:Value}(h:RA g w j .nil u):RA g w j (.sl k []) u:=Rep.nil_sl k (show Rep g.S g.up w (some (.par j 0)) .nil u from h)
theorem RA_optN{g:Gh}{w:World}{j:Nat}{u:Value}{row row':List D}(hl:row'.length=row.length)(hc:∀ (i:Nat) (d d':D),row[i]?=some d->row'[i]?=some d'->d'=d\/(d=.nil/\((∃ e k,d'=.osl e k [])\/∃ k,d'=.sl k [])))(h:RA g w j (.opt row) u):RA g w j (.opt row') u:=by
 have h:Rep g.S g.up w (some (.par j 0)) (.opt row) u:=h;show Rep g.S g.up w (some (.par j 0)) (.opt row') u;cases h with
 | opt cs h1 h2 h3 h4=>
  refine .opt cs h1 h2 (h3.trans hl.symm) fun i d' hi=>?_
  have hil:i<row.length:=by rw [<- hl];exact (List.getElem?_eq_some_iff.1 hi).1
  have hd:=List.getElem?_eq_getElem hil;rcases hc i row[i] d' hd hi with rfl|⟨e,⟨e',k',rfl⟩|⟨k',rfl⟩⟩
  .exact h4 i _ hd
  .rw [e] at hd;exact Rep.nil_osl _ _ (h4 i .nil hd)
  .rw [e] at hd;exact Rep.nil_sl _ (h4 i .nil hd)
theorem QH{g:Gh}{w:World}{v:Value}{xs xs':List D}(hl:xs'.length=xs.length)(hc:∀ (m:Nat) (x x':D),xs[m]?=some x->xs'[m]?=some x'->∀ u,RN g w m x u->RN g w m x' u)(h:RNs g w (.tup xs) v):RNs g w (.tup xs') v:=by
 obtain ⟨us,e,h1,h2⟩:=h;refine ⟨us,e,h1.trans hl.symm,fun m x' u hx hu=>?_⟩
 have hm:m<xs.length:=by rw [<- hl];exact (List.getElem?_eq_some_iff.1 hx).1
 have hd:=List.getElem?_eq_getElem hm;exact hc m _ x' hd hx u (h2 m _ u hd hu)
theorem RN_agN{g:Gh}{w:World}{m:Nat}{u:Value}{ys ys':List D}(hl:ys'.length=ys.length)(hc:∀ (i:Nat) (d d':D),ys[i]?=some d->ys'[i]?=some d'->d'=d\/(d=.nil/\((∃ e k,d'=.osl e k [])\/∃ k,d'=.sl k [])))(h:RN g w m (.ag ys) u):RN g w m (.ag ys') u:=by
 obtain ⟨us,e,h1,h2⟩:=h;refine ⟨us,e,h1.trans hl.symm,fun i d' v hi hv=>?_⟩
 have hil:i<ys.length:=by rw [<- hl];exact (List.getElem?_eq_some_iff.1 hi).1
 have hd:=List.getElem?_eq_getElem hil;rcases hc i ys[i] d' hd hi with rfl|⟨e,⟨e',k',rfl⟩|⟨k',rfl⟩⟩
 .exact h2 i _ v hd hv
 .rw [e] at hd;exact Rep.nil_osl _ _ (h2 i .nil v hd hv)
 .rw [e] at hd;exact Rep.nil_sl _ (h2 i .nil v hd hv)
def bs(l:List UInt8):ByteArray:=⟨l.toArray⟩
theorem ze(l:List UInt8):(bs l).size=l.length:=rfl
theorem bs_of(s:ByteArray):bs s.data.toList=s:=by cases s;rfl
def yB(b:UInt8):Value:=.int .u8 (b.toNat:Int)
theorem QV{z:Int}(h0:0<=z)(h1:z<256):Value.int .u8 z=yB (UInt8.ofNat z.toNat):=by
 unfold yB;rw [UInt8.toNat_ofNat']
 congr 1
 omega
theorem Qk(w:World)(vs:List Value)(e:TypeId):∀ j u,vs[j]?=some u->(w.alloc (.cells vs.toArray e)).cell? ((⟨w.heap.size,0,none⟩:Addr).add j)=some u:=by
 intro j u h;rw [XX];simp only [World.cell?];have:(w.alloc (.cells vs.toArray e)).heap[w.heap.size]?=some (.cells vs.toArray e):=by show (w.heap.push _)[w.heap.size]?=_;simp
 rw [this]
 simpa using h
theorem info_u8:(Tryz.prog.info? 5).map (fun i=>(i.zero,i.size,i.bytes))=some (some (.int .u8 0),1,1):=by kernel_rfl
def OwnB(w:World)(B:Nat)(v:Value)(out:List UInt8):Prop:=w.ownsRow B 5 1 v out.length (out.map yB)
theorem OwnB.alloc{w:World}{B:Nat}{v:Value}{out:List UInt8}(h:OwnB w B v out)(o:Obj):OwnB (w.alloc o) B v out:=World.ownsRow.alloc h o
theorem OwnB.drew{w:World}{B:Nat}{v:Value}{out:List UInt8}(h:OwnB w B v out):OwnB w.drew B v out:=h
theorem OwnB.kept{w w':World}{B C:Nat}{v:Value}{out:List UInt8}(h:OwnB w B v out)(hb:Below C w w')(hc:w.heap.size<=C):OwnB w' B v out:=by
 obtain ⟨h1,h2⟩:=h;refine ⟨h1,h2.imp id fun ⟨g,cap,cur,e,hg,hh,r⟩=>⟨g,cap,cur,e,hg,?_,r⟩⟩
 have:g<w.heap.size:=by
  rcases Nat.lt_or_ge g w.heap.size with hl|hl
  .exact hl
  .rw [Array.getElem?_eq_none hl] at hh;cases hh
 rw [hb.block g (by omega)];exact hh
theorem OwnB.len{w:World}{B:Nat}{v:Value}{out:List UInt8}(h:OwnB w B v out):∃ a c,v=.slice a out.length c:=by
 obtain ⟨h1,⟨e,h2⟩|⟨g,cap,cur,e,_⟩⟩:=h
 .exact ⟨none,0,by rw [e,h2]⟩
 .exact ⟨_,_,e⟩
theorem OwnB.made(w:World)(B:Nat)(hB:B<=w.heap.size)(l:List UInt8)(hl:l.length<=maxLen):OwnB (w.alloc (.cells (l.map yB).toArray 5)) B (.slice (some ⟨w.heap.size,0,none⟩) l.length l.length) l:=by
 refine ⟨by simp,.inr ⟨w.heap.size,l.length,(l.map yB).toArray,rfl,hB,?_,Nat.le_refl _,hl,by simp,by simp [List.take_of_length_le]⟩⟩
 show (w.heap.push _)[w.heap.size]?=_
 simp
theorem app_u8{ops:Array Oper}{rest:List Oper}{o:Oper}{a:Act}{Q:Exit->Act->World->Prop}(w:World)(hgd:o.guard=none)(s x:Operand)
  (ho:o.op=.call { callee:=.builtin .append,args:=#[s,x],argTypes:=#[36,36] })
  (B:Nat) (v:Value) (out:List UInt8) (hs:a.eval s=v) (hown:OwnB w B v out)
  (ad:Addr) (m c:Nat) (news:List UInt8) (hx:a.eval x=.slice (some ad) m c) (hl:news.length=m)
  (hnews:∀ j u,(news.map yB)[j]?=some u->w.cell? (ad.add j)=some u)
  (hroom:out.length+m<=140737488355328) (hbase:B<=w.heap.size)
  (h:∀ v' w',OwnB w' B v' (out++news)->w.grownBy w' v.ownBlock->wpList Tryz.prog ops Q rest (a.put o.dst v') w'):wpList Tryz.prog ops Q (o::rest) a w:=by
 obtain ⟨i,hi,hz0,hz1,hz2⟩:=info_parts info_u8;refine wpList_append_own w hgd s x 36 ho B 5 i (.int .u8 0) 1 1 Tryz.underlying36 hi hz0 hz1 hz2 rfl (by decide) v out.length (out.map yB) hs hown ad m c (news.map yB) hx (by simp [hl]) hnews ?_ (by unfold maxLen;omega) (by omega) hbase ?_
 .intro u hu
  obtain ⟨b,_,rfl⟩:=List.mem_map.1 hu
  rfl
 .intro v' w' h1 h2 _
  refine h v' w' ?_ h2;unfold OwnB;rw [List.length_append,hl,List.map_append];exact h1
theorem ub{w:World}{B:Nat}{v:Value}{out:List UInt8}(h:OwnB w B v out) :
  (Go.convert 36 9 v).run Tryz.prog w=.ok (.string (bs out)) w:=by
 obtain ⟨h1,⟨rfl,h2⟩|⟨g,cap,cur,rfl,hg,hh,hc,hm,hs,ht⟩⟩:=h
 .have:out=[]:=by simpa using h2
  subst this;exact run_convert_bytes_nil w 36 5 Tryz.underlying36 Tryz.underlying5 0 0 9 Tryz.underlying9
 .refine run_convert_bytes_back w 36 9 5 _ _ out Tryz.underlying36 Tryz.underlying5 Tryz.underlying9 (fun j hj=>?_)
  rw [XX];simp only [World.cell?,hh];rw [if_neg (by simp)]
  have e:cur.toList[j]?=(out.map yB)[j]?:=by
   rw [<- ht,List.getElem?_take_of_lt (by omega)]
  rw [Nat.zero_add,<- Array.getElem?_toList,e,List.getElem?_map,List.getElem?_eq_getElem hj]
  rfl
theorem yf{ops:Array Oper}{rest:List Oper}{o:Oper}{a:Act}{Q:Exit->Act->World->Prop}(w:World)(hgd:o.guard=none)(s x:Operand)
  (ho:o.op=.call { callee:=.builtin .append,args:=#[s,x],argTypes:=#[36,36] })
  (B:Nat) (v:Value) (out:List UInt8) (hs:a.eval s=v) (hown:OwnB w B v out)
  (vals:List Value) (hx:a.eval x=.slice (some ⟨w.heap.size,0,none⟩) vals.length vals.length) (news:List UInt8) (hn:vals=news.map yB)
  (hroom:out.length+vals.length<=140737488355328) (hbase:B<=w.heap.size)
  (h:∀ v' w',OwnB w' B v' (out++news)->Below B w w'->wpList Tryz.prog ops Q rest (a.put o.dst v') w') :
  wpList Tryz.prog ops Q (o::rest) a (w.alloc (.cells vals.toArray 5)):=by
 subst hn;refine app_u8 _ hgd s x ho B v out hs (hown.alloc _) ⟨w.heap.size,0,none⟩ _ _ news hx (by simp) (Qk w _ _) hroom ?_ ?_
 .have:(w.alloc (.cells (news.map yB).toArray 5)).heap.size=w.heap.size+1:=by simp
  omega
 .intro v' w' h1 h2
  refine h v' w' h1 (((Below.refl B w).alloc hbase _).grown h2 (by simp;omega) ?_)
  intro k hk;exact (World.ownsRow.lt hown k hk).1
theorem WU(z:Int)(d:UInt8)(hz:Value.int .u8 z=yB d)(W:World)(b:Nat)(hc:W.cell? ⟨b,0,none⟩=some (.int .u8 z)) :
  (Go.convert 36 9 (.slice (some ⟨b,0,none⟩) 1 1)).run Tryz.prog W=.ok (.string (bs [d])) W:=by
 refine run_convert_bytes_back W 36 9 5 _ _ [d] Tryz.underlying36 Tryz.underlying5 Tryz.underlying9 (fun j hj=>?_)
 obtain rfl:j=0:=by simpa using hj
 rw [XX];exact hc.trans (congrArg some hz)
theorem Vb{ops:Array Oper}{o:Oper}{a:Act}{K:Act->World->Prop}{Q:Exit->Act->World->Prop}{E:Prop}(w:World)(hgd:o.guard=none)(s x:Operand)
  (ho:o.op=.call { callee:=.builtin .append,args:=#[s,x],argTypes:=#[36,36] })
  (B:Nat) (v:Value) (out:List UInt8) (hs:a.eval s=v) (hown:OwnB w B v out)
  (vals:List Value) (hx:a.eval x=.slice (some ⟨w.heap.size,0,none⟩) vals.length vals.length) (news:List UInt8) (hn:vals=news.map yB)
  (hroom:out.length+vals.length<=140737488355328) (hbase:B<=w.heap.size)
  (h:∀ v' w',OwnB w' B v' (out++news)->Below B w w'->K (a.put o.dst v') w') :
  if Region.wanted o (yielded ops a.tmps)=true then Oper.wp Tryz.prog o a (w.alloc (.cells vals.toArray 5)) K Q else E:=by
 rw [if_pos (by simp [Region.wanted,hgd])]
 subst hn;obtain ⟨i,hi,hz0,hz1,hz2⟩:=info_parts info_u8;refine wp_append_own _ s x 36 ho B 5 i (.int .u8 0) 1 1 Tryz.underlying36 hi hz0 hz1 hz2 rfl (by decide) v out.length (out.map yB) hs (World.ownsRow.alloc hown _) ⟨w.heap.size,0,none⟩ _ _ (news.map yB) hx (by simp) (Qk w _ _) ?_ ?_ ?_ ?_ ?_
 .intro u hu
  obtain ⟨b,_,rfl⟩:=List.mem_map.1 hu
  rfl
 .unfold maxLen;omega
 .omega
 .have:(w.alloc (.cells (news.map yB).toArray 5)).heap.size=w.heap.size+1:=by simp
  omega
 .intro v' w' h1 h2 _
  refine h v' w' ?_ (((Below.refl B w).alloc hbase _).grown h2 (by simp;omega) ?_)
  .unfold OwnB
   rw [List.length_append,List.map_append];rw [List.length_map] at h1
   exact h1
  .intro k hk
   exact (World.ownsRow.lt hown k hk).1
end
section
def dgt(d:Nat):UInt8:=UInt8.ofNat (48+d)
theorem vX{d:Nat}(h:d<10):(dgt d).toNat=48+d:=by
 unfold dgt;rw [UInt8.toNat_ofNat'];omega
def decL(n:Nat):List UInt8:=if n<10 then [dgt n] else decL (n / 10)++[dgt (n % 10)]
theorem wV{n:Nat}(h:n<10):decL n=[dgt n]:=by rw [decL,if_pos h]
theorem vW{n:Nat}(h:¬ n<10):decL n=decL (n / 10)++[dgt (n % 10)]:=by rw [decL,if_neg h]
theorem uA5:∀ (k n:Nat),n<10 ^ (k+1)->(decL n).length<=k+1
 | 0,n,h=>by rw [wV (by simpa using h)];simp
 | k+1,n,h=>by
  by_cases h':n<10
  .rw [wV h'];simp
  .rw [vW h',List.length_append]
   have:=uA5 k (n / 10) (by rw [Nat.pow_succ] at h;omega)
   simp;omega
def DecInv(N n:Nat)(out:List UInt8):Prop:=
 ((0<n\/out=[])->decL N=decL n++out.reverse)/\(n=0->out≠[]->decL N=out.reverse)
theorem DecInv.start(N:Nat):DecInv N N []:=⟨fun _=>by simp,fun _ h=>absurd rfl h⟩
theorem DecInv.step{N n:Nat}{out:List UInt8}(h:DecInv N n out)(hc:0<n\/out=[]):DecInv N (n / 10) (out++[dgt (n % 10)]):=by
 have e:=h.1 hc;refine ⟨fun hc'=>?_,fun hz _=>?_⟩
 .have:0<n / 10:=by
   rcases hc' with h|h
   .exact h
   .simp at h
  rw [e,vW (by omega)];simp
 .rw [e,wV (by omega),Nat.mod_eq_of_lt (by omega)];simp
theorem DecInv.done{N n:Nat}{out:List UInt8}(h:DecInv N n out)(hc:¬ (0<n\/out=[])):decL N=out.reverse:=
 h.2 (by omega) (fun e=>hc (.inr e))
def numT(n:Int):List UInt8:=
 if -4611686018427387904<=n/\n<=4611686018427387903 then (if n<0 then 45::decL n.natAbs else decL n.natAbs) else []
theorem Us{n:Int}(h:¬ (-4611686018427387904<=n/\n<=4611686018427387903)):numT n=[]:=by rw [numT,if_neg h]
theorem xar{n:Int}(h : -4611686018427387904<=n)(h0:n<0):numT n=45::decL (-n).toNat:=by
 rw [numT,if_pos ⟨h,by omega⟩,if_pos h0];congr 2;omega
theorem Ut{n:Int}(h:n<=4611686018427387903)(h0:¬ n<0):numT n=decL n.toNat:=by
 rw [numT,if_pos ⟨by omega,h⟩,if_neg h0];congr 1;omega
theorem uv(n:Int):(numT n).length<=20:=by
 unfold numT;split
 .have:=uA5 18 n.natAbs (by omega)
  split<;>simp<;>omega
 .simp
def swp(l:List UInt8)(i j:Nat):List UInt8:=(l.set i (l.getD j 0)).set j (l.getD i 0)
def uH(l:List UInt8)(k:Nat):List UInt8:=(List.range l.length).map fun p=>if p<k\/l.length - k<=p then l.getD (l.length - 1 - p) 0 else l.getD p 0
theorem yu(l:List UInt8)(k:Nat):(uH l k).length=l.length:=by simp [uH]
theorem uI(l:List UInt8)(k p:Nat)(h:p<l.length):(uH l k).getD p 0=if p<k\/l.length - k<=p then l.getD (l.length - 1 - p) 0 else l.getD p 0:=by
 simp [uH,List.getD_eq_getElem?_getD,List.getElem?_map,List.getElem?_range h]
theorem Xz{a b:List UInt8}(h:a.length=b.length)(h2:∀ p,p<a.length->a.getD p 0=b.getD p 0):a=b:=by
 apply List.ext_getElem h;intro p h1 h3;have:=h2 p h1
 simpa [List.getD_eq_getElem?_getD,List.getElem?_eq_getElem h1,List.getElem?_eq_getElem h3] using this
theorem xcd(l:List UInt8):uH l 0=l:=Xz (yu _ _) fun p h=>by
 rw [yu] at h
 rw [uI _ _ _ h,if_neg (by omega)]
theorem xcc(l:List UInt8)(k:Nat)(h:k<l.length - 1 - k):swp (uH l k) k (l.length - 1 - k)=uH l (k+1):=by
 refine Xz (by simp [swp,yu]) fun p hp=>?_
 have hp':p<l.length:=by simpa [swp,yu] using hp
 rw [uI _ _ _ hp'];unfold swp;rw [uI _ _ _ (by omega),uI _ _ _ (by omega)]
 simp only [List.getD_eq_getElem?_getD,List.getElem?_set,List.length_set,yu]
 by_cases e1:l.length - 1 - k=p
 .subst e1
  rw [if_pos rfl,if_pos (by omega),if_neg (by omega),if_pos (by omega)]
  simp [show l.length - 1 - (l.length - 1 - k)=k by omega]
 .rw [if_neg e1]
  by_cases e2:k=p
  .subst e2
   rw [if_pos rfl,if_pos (by omega),if_neg (by omega),if_pos (by omega)]
   simp
  .rw [if_neg e2]
   have:=uI l k p hp';rw [List.getD_eq_getElem?_getD] at this
   rw [this]
   by_cases c:p<k\/l.length - k<=p
   .rw [if_pos c,if_pos (by omega)];simp [List.getD_eq_getElem?_getD]
   .rw [if_neg c,if_neg (by omega)];simp [List.getD_eq_getElem?_getD]
theorem revTo_end(l:List UInt8)(k:Nat)(h:¬ k<l.length - 1 - k):uH l k=l.reverse:=by
 refine Xz (by simp [yu]) fun p hp=>?_
 have hp':p<l.length:=by simpa [yu] using hp
 rw [uI _ _ _ hp'];have e:l.reverse.getD p 0=l.getD (l.length - 1 - p) 0:=by
  simp [List.getD_eq_getElem?_getD,List.getElem?_reverse hp']
 rw [e]
 by_cases c:p<k\/l.length - k<=p
 .rw [if_pos c]
 .rw [if_neg c];congr 1;omega
end
section
open Go.RowKit
theorem Wd(w:World)(n:Int):Calls Tryz.prog 250 #[.int .i64 n] w fun e w'=>e=.returned (.int .i64 (wrap63 n))/\w=w':=by
 go_enter Tryz.func250,Tryz.ntmps250
 go_wp2
 go_ret
 exact ⟨rfl,rfl⟩
theorem ret_i{a b:Int}(h:a=b):Ending.returned (.int .i64 a)=.returned (.int .i64 b):=by rw [h]
theorem OwnB.parts{w:World}{B g n c:Nat}{out:List UInt8}(h:OwnB w B (.slice (some ⟨g,0,none⟩) n c) out) :
  n=out.length/\B<=g/\(∀ j,j<out.length->w.cell? ⟨g,j,none⟩=some (yB (out.getD j 0)))/\(∀ j,w.frozen? ⟨g,j,none⟩=false)/\g<w.heap.size:=by
 obtain ⟨h1,⟨e,h2⟩|⟨g',cap,cur,e,hg,hh,hc,hm,hs,ht⟩⟩:=h
 .cases e
 .injection e with e e2 e3
  injection e with e
  injection e with e
  subst e;refine ⟨e2,hg,fun j hj=>?_,fun j=>?_,?_⟩
  .simp only [World.cell?,hh]
   rw [if_neg (by simp)]
   have e:cur.toList[j]?=(out.map yB)[j]?:=by rw [<- ht,List.getElem?_take_of_lt (by omega)]
   rw [<- Array.getElem?_toList,e,List.getElem?_map,List.getElem?_eq_getElem hj]
   simp [List.getD_eq_getElem?_getD,List.getElem?_eq_getElem hj]
  .simp [World.frozen?,hh]
  .rcases Nat.lt_or_ge g w.heap.size with hl|hl
   .exact hl
   .rw [Array.getElem?_eq_none hl] at hh;cases hh
theorem OwnB.set{w:World}{B g n c:Nat}{out:List UInt8}(h:OwnB w B (.slice (some ⟨g,0,none⟩) n c) out)(j:Nat)(b:UInt8)(_hj:j<out.length) :
  OwnB (w.setCell ⟨g,j,none⟩ (yB b)) B (.slice (some ⟨g,0,none⟩) n c) (out.set j b):=by
 obtain ⟨h1,⟨e,h2⟩|⟨g',cap,cur,e,hg,hh,hc,hm,hs,ht⟩⟩:=h
 .cases e
 .injection e with e e2 e3
  injection e with e
  injection e with e
  subst e;refine ⟨by simp,.inr ⟨g,cap,cur.setIfInBounds j (yB b),by rw [e3,e2];simp,hg,?_,by simpa using hc,hm,by simpa using hs,?_⟩⟩
  .simp only [World.setCell,Array.getElem?_modify,if_true,hh,Option.map_some]
   rw [if_neg (by simp)]
  .rw [Array.toList_setIfInBounds,List.length_set,List.map_set,<- ht,List.take_set]
theorem OwnB.ne_nil{w:World}{B:Nat}{v:Value}{out:List UInt8}(h:OwnB w B v out)(hne:0<out.length):∃ g c,v=.slice (some ⟨g,0,none⟩) out.length c:=by
 obtain ⟨h1,⟨rfl,h2⟩|⟨g',cap,cur,e,_⟩⟩:=h
 .omega
 .exact ⟨_,_,e⟩
def RevPost(w:World)(B:Nat)(v:Value)(l:List UInt8)(w':World):Prop:=OwnB w' B v l.reverse/\Below B w w'
theorem VF(w:World)(B:Nat)(v:Value)(l:List UInt8)(hv:OwnB w B v l)(hl:l.length<=1000000):Calls Tryz.prog 144 #[v] w fun e w'=>e=.returned (.tuple #[])/\RevPost w B v l w':=by
 have HO:=Lib.hid hv;obtain ⟨a,c,rfl⟩:=hv.len;clear hv
 go_enter Tryz.func144,Tryz.ntmps144
 go_wp2
 go_loopw [2,3] (fun i j wr=>∃ k:Nat,k<=l.length/\i=.int .i64 k/\j=.int .i64 ((l.length:Int) - 1 - k)/\OwnB wr B (.slice a l.length c) (uH l k)/\Below B w wr) (fun i _ _=>l.length - (intOf i).toNat)
 case atStart=>exact ⟨0,Nat.zero_le _,rfl,by simp,by rw [xcd];exact HO.out,Below.refl _ _⟩
 case round=>
  obtain ⟨k,hk,rfl,rfl,hown,hbel⟩:=hrel
  by_cases hlt:k<l.length - 1 - k
  .have hlt':(k:Int)<(l.length:Int) - 1 - k:=by omega
   obtain ⟨g,c',e⟩:=hown.ne_nil (by rw [yu];omega)
   injection e with e1 e2 e3
   subst e1;subst e3;obtain ⟨-,hB,hcell,hfr,hg⟩:=hown.parts;have c1:=hcell k (by rw [yu];omega)
   have c2:=hcell (l.length - 1 - k) (by rw [yu];omega)
   have f1:=hfr k;have f2:=hfr (l.length - 1 - k);have HO2:=Lib.hid hown;have HS:=Lib.hid (xcc l k hlt);obtain ⟨x1,hx1⟩:∃ x:UInt8,(uH l k).getD k 0=x:=⟨_,rfl⟩;obtain ⟨x2,hx2⟩:∃ x:UInt8,(uH l k).getD (l.length - 1 - k) 0=x:=⟨_,rfl⟩;rw [hx1] at c1
   rw [hx2] at c2
   unfold yB at c1 c2
   have HX:=Lib.hid (And.intro hx1 hx2);clear hcell hfr hown e2 hx1 hx2;have b1:(k:Int)<=(l.length:Int) - 1:=by omega
   have b2:(l.length:Int) - 1 - k<l.length:=by omega
   have b3:0<=(l.length:Int) - 1 - k:=by omega
   have b4:(k:Int)<l.length:=by omega
   go_wp2
   go_region
   go_wp2
   go_roundw
   case rel=>
    refine ⟨k+1,by omega,by go_num,by rw [show ((l.length:Int) - 1 - k - 1)=(l.length:Int) - 1 - ((k+1:Nat):Int) from by omega],?_,?_⟩
    .have h1:=(HO2.out.set k x2 (by rw [yu];omega)).set (l.length - 1 - k) x1 (by simp [yu];omega)
     have e:((uH l k).set k x2).set (l.length - 1 - k) x1=uH l (k+1):=by
      rw [<- HS.out,swp,HX.out.1,HX.out.2]
     rw [e] at h1
     exact h1.drew
    .exact ((hbel.setCell hB _).setCell hB _).drew
   case measure=>simp [intOf];omega
  .have hlt':(l.length:Int) - 1 - k<=(k:Int):=by omega
   have HS:=Lib.hid (revTo_end l k hlt);have HO2:=Lib.hid hown;clear hown
   go_wp2
   go_end0
   exact ⟨rfl,HS.out ▸ HO2.out,hbel⟩
theorem WC{a b:List UInt8}(h:a=b):Ending.returned (.string (bs a))=.returned (.string (bs b)):=by rw [h]
theorem dgtV{d:Nat}(h:d<10):Value.int .u8 (48+(d:Int))=yB (dgt d):=by
 unfold yB;rw [vX h];simp
def len0(v:Value):Nat:=match v with|.slice _ 0 _=>1|_=>0
theorem len0_pos{a:Option Addr}{n c:Nat}(h:0<n):len0 (.slice a n c)=0:=by
 cases n with
 | zero=>omega
 | succ n=>rfl
theorem xam{w:World}{B:Nat}{v:Value}{out:List UInt8}{b:UInt8}(h:OwnB w B v (out++[b])):len0 v=0:=by
 obtain ⟨a,c,rfl⟩:=h.len;exact len0_pos (by simp)
theorem DecInv.len{N n:Nat}{out:List UInt8}(h:DecInv N n out)(hc:0<n\/out=[])(hN:N<10 ^ 19):out.length<=19:=by
 have e:=congrArg List.length (h.1 hc);have:=uA5 18 N hN;rw [List.length_append,List.length_reverse] at e
 omega
theorem YF(w:World)(n:Int)(h0:0<=n)(h1:n<=9223372036854775807):Calls Tryz.prog 59 #[.int .i64 n] w fun e w'=>e=.returned (.string (bs (decL n.toNat)))/\Below w.heap.size w w':=by
 obtain ⟨N,rfl⟩:=Int.eq_ofNat_of_zero_le h0;rw [Int.toNat_natCast];have hb0:Below w.heap.size w w:=Below.refl _ _
 go_enter Tryz.func59,Tryz.ntmps59
 go_wp2
 go_loopw [0,3] (fun i v wr=>∃ (n:Nat) (out:List UInt8),n<=N/\i=.int .i64 n/\OwnB wr w.heap.size v out/\DecInv N n out/\Below w.heap.size w wr) (fun i v _=>(intOf i).toNat+len0 v)
 case atStart=>exact ⟨N,[],Nat.le_refl _,rfl,OwnB.made w _ (Nat.le_refl _) [] (by decide),DecInv.start N,hb0.alloc (Nat.le_refl _) _⟩
 case round=>
  obtain ⟨n,out,hn,rfl,hown,hinv,hbel⟩:=hrel;obtain ⟨a,c,rfl⟩:=hown.len;have HO:=Lib.hid hown;have HI:=Lib.hid hinv;clear hown hinv
  by_cases hc:0<n\/out=[]
  .have hl:=HI.out.len hc (by omega)
   have HS:=Lib.hid (HI.out.step hc);have HV:=Lib.hid (dgtV (d:=n % 10) (by omega))
   by_cases hn0:0<n
   .clear hc
    go_wp2_with (first|(at_builtin;refine yf wr rfl _ _ rfl w.heap.size (.slice a out.length c) out rfl HO.out _ rfl [dgt (n % 10)] ?_ ?_ ?_ ?_))
    .exact congrArg (fun x=>[x]) HV.out
    .simp;omega
    .exact hbel.size
    .intro v' w' hown' hb'
     go_wp2
     go_roundw
     case rel=>exact ⟨n / 10,out++[dgt (n % 10)],by omega,by go_num,hown',HS.out,hbel.trans hb'⟩
     case measure=>
      rw [xam hown']
      simp [intOf];omega
   .obtain rfl:n=0:=by omega
    obtain rfl:out=[]:=by rcases hc with hc|hc;omega;exact hc
    clear hc
    go_wp2_with (first|(at_builtin;refine yf wr rfl _ _ rfl w.heap.size (.slice a 0 c) [] rfl HO.out _ rfl [dgt 0] ?_ ?_ ?_ ?_))
    .exact congrArg (fun x=>[x]) HV.out
    .simp
    .exact hbel.size
    .intro v' w' hown' hb'
     go_wp2
     go_roundw
     case rel=>exact ⟨0,[dgt 0],by omega,by go_num,hown',HS.out,hbel.trans hb'⟩
     case measure=>
      rw [xam (out:=[]) hown']
      simp [intOf,len0]
  .have HD:=Lib.hid (HI.out.done hc)
   have HL:=Lib.hid (show out.length<=19 by
    have e:=congrArg List.length (HI.out.done hc);have:=uA5 18 N (by omega)
    rw [List.length_reverse] at e
    omega)
   obtain ⟨z1,z2⟩:n=0/\out≠[]:=by constructor;omega;exact fun e=>hc (.inr e)
   subst z1;have z3:((out.length:Int)==0)=false:=by simpa using z2
   clear hc z2
   go_wp2_with (first|(go_at_call 144;refine (VF _ w.heap.size _ out HO.out (by have:=HL.out;omega)).mono ?_;rintro e w1 ⟨rfl,hr1,hr2⟩))
   have hcv:=ub hr1
   go_wp2
   simp only [hcv]
   go_wp2
   go_ret
   exact ⟨WC HD.out.symm,hbel.trans hr2⟩
theorem VG(l m:List UInt8):(bs l++bs m)=bs (l++m):=by
 apply VR;show ((bs l).append (bs m)).data.toList=_
 simp [bs,ByteArray.append]
theorem xac(w:World)(n:Int)(hlo : -9223372036854775808<=n)(hhi:n<=9223372036854775807):Calls Tryz.prog 63 #[.int .i64 n] w fun e w'=>e=.returned (.string (bs (numT n)))/\Below w.heap.size w w':=by
 by_cases hin : -4611686018427387904<=n/\n<=4611686018427387903
 .have ht:(decide (-4611686018427387904<=n)&&decide (n<=4611686018427387903))=true:=by simp [hin]
  have HT:=Lib.hid ht;obtain ⟨h1,h2⟩:=hin;clear ht
  by_cases hn:n<0
  .have HN:=Lib.hid (xar h1 hn)
   have hsz:(bs (decL (-n).toNat)).size<=19:=by rw [ze];exact uA5 18 _ (by omega)
   go_enter Tryz.func63,Tryz.ntmps63
   go_wp2_with (first|(go_at_call 65;refine (Xl _ _ _ _).mono ?_;rintro e w' ⟨rfl,rfl⟩)|(go_at_call 59;refine (YF _ _ (by omega) (by omega)).mono ?_;rintro e w1 ⟨rfl,hb1⟩))
   go_ret
   exact ⟨congrArg (fun s=>Ending.returned (.string s)) ((VG [45] _).trans (congrArg bs HN.out.symm)),hb1⟩
  .have HN:=Lib.hid (Ut h2 hn)
   go_enter Tryz.func63,Tryz.ntmps63
   go_wp2_with (first|(go_at_call 65;refine (Xl _ _ _ _).mono ?_;rintro e w' ⟨rfl,rfl⟩)|(go_at_call 59;refine (YF _ _ (by omega) (by omega)).mono ?_;rintro e w1 ⟨rfl,hb1⟩))
   go_ret
   exact ⟨WC HN.out.symm,hb1⟩
 .have ht:(decide (-4611686018427387904<=n)&&decide (n<=4611686018427387903))=false:=by grind
  have HN:=Lib.hid (Us hin)
  go_enter Tryz.func63,Tryz.ntmps63
  go_wp2_with (first|(go_at_call 65;refine (Xl _ _ _ _).mono ?_;rintro e w' ⟨rfl,rfl⟩))
  go_ret
  exact ⟨WC HN.out.symm,Below.refl _ _⟩
theorem YV:∀ (k:Nat) (w:World) (n:Int),n<=0 -> -(10:Int) ^ (k+1)<n -> -9223372036854775808<=n ->
  Calls Tryz.prog 257 #[.int .i64 n] w fun e w'=>e=.returned (.string (bs (decL (-n).toNat)))/\Below w.heap.size w w':=by
 have small:∀ (w:World) (n:Int),n<=0 -> -10<n->Calls Tryz.prog 257 #[.int .i64 n] w fun e w'=>e=.returned (.string (bs (decL (-n).toNat)))/\Below w.heap.size w w':=by
  intro w n h0 h1;have hv:Value.int .u8 (48 - n)=yB (dgt (-n).toNat):=by
   rw [<- dgtV (by omega)];congr 1;omega
  have hcv:=WU (48 - n) _ hv;have HN:=Lib.hid (wV (n:=(-n).toNat) (by omega))
  clear hv
  go_enter Tryz.func257,Tryz.ntmps257
  go_wp2
  go_ret
  exact ⟨WC HN.out.symm,(Below.refl _ _).alloc (Nat.le_refl _) _⟩
 intro k
 induction k with
 | zero=>intro w n h0 h1 _;exact small w n h0 (by simpa using h1)
 | succ k ih=>
  intro w n h0 h1 hlo
  by_cases hs : -10<n
  .exact small w n h0 hs
  .have hp:(10:Int) ^ (k+1+1)=10 ^ (k+1)*10:=Int.pow_succ _ _
   have hq:n.tdiv 10 = -((-n) / 10):=by
    rw [show n = -(-n) from by omega,Int.neg_tdiv,Int.tdiv_eq_ediv_of_nonneg (by omega)];simp
   have hm:n.tmod 10 = -((-n) % 10):=by
    rw [show n = -(-n) from by omega,Int.neg_tmod,Int.tmod_eq_emod_of_nonneg (by omega)];simp
   have q1:n.tdiv 10<=0:=by omega
   have q2 : -(10:Int) ^ (k+1)<n.tdiv 10:=by omega
   have q3 : -9223372036854775808<=n.tdiv 10:=by omega
   have r1 : -10<n.tmod 10:=by omega
   have r2:n.tmod 10<=0:=by omega
   have hv:Value.int .u8 (48 - n.tmod 10)=yB (dgt ((-n).toNat % 10)):=by
    rw [<- dgtV (by omega)];congr 1;omega
   have hcv:=WU (48 - n.tmod 10) _ hv;have HN:=Lib.hid (vW (n:=(-n).toNat) (by omega))
   have HQ:=Lib.hid (show (-(n.tdiv 10)).toNat=(-n).toNat / 10 by omega)
   have ih':=Lib.hid ih;clear hv ih hp hq hm;have z1:(bs (decL (-n.tdiv 10).toNat)).size<=19:=by rw [ze];exact uA5 18 _ (by omega)
   have z2:(bs [dgt ((-n).toNat % 10)]).size<=1:=by rw [ze];simp
   have z3:¬ 9223372036854775807<(bs (decL (-n.tdiv 10).toNat)).size+(bs [dgt ((-n).toNat % 10)]).size:=by omega
   have e1:IntKind.i64.wrap (n.tdiv 10)=n.tdiv 10:=IntWalk.i64_in _ (by omega)
   have e2:IntKind.i64.wrap (48 - n.tmod 10)=48 - n.tmod 10:=IntWalk.i64_in _ (by omega)
   have e3:IntKind.u8.wrap (48 - n.tmod 10)=48 - n.tmod 10:=IntWalk.u8_in _ (by omega)
   go_enter Tryz.func257,Tryz.ntmps257
   go_wp2_with fail
   go_region_with (go_at_call 257;refine (ih'.out _ _ q1 q2 q3).mono ?_;rintro e w1 ⟨rfl,hb1⟩;first|(have hc1:w1.cell? ⟨w.heap.size,0,none⟩=some (.int .u8 (48 - n.tmod 10)):=wQ hb1 (Xv w.drew _ _))|skip)
   all_goals
    go_wp2
    go_ret
    refine ⟨congrArg (fun s=>Ending.returned (.string s)) ((VG _ _).trans (congrArg bs (by rw [HN.out,HQ.out]))),?_⟩
   .exact ((Below.refl _ _).drew.trans hb1).alloc hb1.size _
   .exact (((Below.refl _ _).drew.alloc (Nat.le_refl _) _).trans (hb1.mono (by simp)))
   .exact (((Below.refl _ _).drew.alloc (Nat.le_refl _) _).trans (hb1.mono (by simp)))
theorem vO(w:World)(n:Int)(hlo : -9223372036854775808<=n)(hhi:n<=9223372036854775807):Calls Tryz.prog 237 #[.int .i64 n] w fun e w'=>e=.returned (.string (bs (numT n)))/\Below w.heap.size w w':=by
 by_cases hin : -4611686018427387904<=n/\n<=4611686018427387903
 .have ht:(wrap63 n != n)=false:=by rw [xbi hin.1 hin.2];simp
  obtain ⟨h1,h2⟩:=hin
  by_cases hn:n<0
  .have HN:=Lib.hid (xar h1 hn)
   have hsz:(bs (decL (-n).toNat)).size<=19:=by rw [ze];exact uA5 18 _ (by omega)
   go_enter Tryz.func237,Tryz.ntmps237
   go_wp2_with (first|(go_at_call 250;refine (Wd _ _).mono ?_;rintro e w' ⟨rfl,rfl⟩)|(go_at_call 257;refine (YV 18 _ _ (by omega) (by omega) (by omega)).mono ?_;rintro e w1 ⟨rfl,hb1⟩))
   go_ret
   exact ⟨congrArg (fun s=>Ending.returned (.string s)) ((VG [45] _).trans (congrArg bs HN.out.symm)),hb1⟩
  .have HN:=Lib.hid (Ut h2 hn)
   go_enter Tryz.func237,Tryz.ntmps237
   go_wp2_with (first|(go_at_call 250;refine (Wd _ _).mono ?_;rintro e w' ⟨rfl,rfl⟩)|(go_at_call 257;refine (YV 18 _ _ (by omega) (by omega) (by omega)).mono ?_;rintro e w1 ⟨rfl,hb1⟩))
   go_ret
   exact ⟨WC HN.out.symm,hb1⟩
 .have ht:(wrap63 n != n)=true:=by
   have:=wrap63_bd n;rw [bne_iff_ne];omega
  have HN:=Lib.hid (Us hin)
  go_enter Tryz.func237,Tryz.ntmps237
  go_wp2_with (first|(go_at_call 250;refine (Wd _ _).mono ?_;rintro e w' ⟨rfl,rfl⟩))
  go_ret
  exact ⟨WC HN.out.symm,Below.refl _ _⟩
end
section
structure TyI where
 v:Int
 name:ByteArray
 ar:Int
def TyI.ok(x:TyI):Prop:=I64 x.v/\x.name.size<=maxLen/\I64 x.ar
def yU(x:TyI):Bool:=
 if x.name.toList.isEmpty then decide (0<=x.v)&&decide (x.v<=9999)&&(x.ar==0)
 else (x.v==0)&&(if x.name.toList==[45,62]||x.name.toList==[42] then x.ar==2 else if x.name.toList==[114,101,102] then x.ar==1 else yM x.name&&decide (0<=x.ar)&&decide (x.ar<=2))
theorem xah{x:TyI}(h:yU x=true):0<=x.ar/\x.ar<=2:=by
 unfold yU at h
 split at h
 .simp only [Bool.and_eq_true,decide_eq_true_eq,beq_iff_eq] at h;omega
 .split at h
  .simp only [Bool.and_eq_true,decide_eq_true_eq,beq_iff_eq] at h;omega
  .split at h<;>simp only [Bool.and_eq_true,decide_eq_true_eq,beq_iff_eq] at h<;>omega
def scan:List Nat->Nat->Option Nat
 | _,0=>some 0
 | [],_+1=>none
 | a::l,m+1=>(scan l (m+a)).map (· + 1)
theorem Wc(l:List Nat):scan l 0=some 0:=by cases l<;>rfl
theorem scan_le:∀ (l:List Nat) (m k:Nat),scan l m=some k->k<=l.length
 | l,0,k,h=>by rw [Wc] at h;cases h;exact Nat.zero_le _
 | [],m+1,k,h=>by cases h
 | a::l,m+1,k,h=>by
  rw [scan] at h
  cases e:scan l (m+a) with
  | none=>rw [e] at h;cases h
  | some j=>
   rw [e] at h
   have:=scan_le l _ _ e;have h2:j+1=k:=by simpa using h
   simp only [List.length_cons];omega
theorem Uy:∀ (l:List Nat) (m n:Nat),scan l (m+n)=(scan l m).bind fun k=>(scan (l.drop k) n).map (· + k)
 | l,0,n=>by rw [Wc,Nat.zero_add];simp
 | [],m+1,n=>by rw [show m+1+n=m+n+1 by omega];rfl
 | a::l,m+1,n=>by
  rw [show m+1+n=m+n+1 by omega,scan,scan,show m+n+a=(m+a)+n by omega,Uy l (m+a) n]
  cases scan l (m+a) with
  | none=>rfl
  | some k=>
   simp only [Option.bind_some,Option.map_some,List.drop_succ_cons];cases scan (l.drop k) n with
   | none=>rfl
   | some j=>simp;omega
def arsM(xs:List TyI):List Nat:=xs.map fun x=>x.ar.toNat
def endM(xs:List TyI)(k:Nat):Int:=match scan ((arsM xs).drop k) 1 with
 | some j=>((k+j:Nat):Int)
 | none=>-1
def zt(xs:List TyI)(k i:Nat):Int:=match scan ((arsM xs).drop k) i with
 | some j=>((k+j:Nat):Int)
 | none=>-1
theorem UY(xs:List TyI)(k:Nat):zt xs k 0=k:=by unfold zt;rw [Wc];rfl
theorem endM_ends(xs:List TyI)(k:Nat):endM xs k=zt xs k 1:=rfl
theorem VQ(xs:List TyI)(k:Nat)(h:k<xs.length):(arsM xs).drop k=xs[k].ar.toNat::(arsM xs).drop (k+1):=by
 have hl:k<(arsM xs).length:=by unfold arsM;simpa using h
 rw [List.drop_eq_getElem_cons hl]
 congr 1
 exact List.getElem_map _
theorem V8(xs:List TyI)(k:Nat)(h:k<xs.length):endM xs k=zt xs (k+1) xs[k].ar.toNat:=by
 unfold endM zt;rw [VQ xs k h,scan,Nat.zero_add];cases scan ((arsM xs).drop (k+1)) xs[k].ar.toNat with
 | none=>rfl
 | some j=>simp only [Option.map_some];congr 1;omega
theorem endM_end(xs:List TyI)(k:Nat)(h:xs.length<=k):endM xs k = -1:=by
 unfold endM;rw [List.drop_eq_nil_of_le (by unfold arsM;simpa using h)]
 rfl
theorem endsM_neg(xs:List TyI)(k i:Nat)(h:zt xs k i<0):∀ j,i<=j->zt xs k j = -1:=by
 intro j hj;unfold zt at h ⊢
 cases e:scan ((arsM xs).drop k) i with
 | some q=>rw [e] at h;simp only at h;omega
 | none=>
  rw [show j=i+(j - i) by omega,Uy,e]
  rfl
theorem xbD(xs:List TyI)(k i:Nat)(n:Nat)(h:zt xs k i=n):zt xs k (i+1)=endM xs n:=by
 unfold zt at h
 cases e:scan ((arsM xs).drop k) i with
 | none=>rw [e] at h;simp only at h;omega
 | some q=>
  rw [e] at h
  simp only at h
  obtain rfl:n=k+q:=by omega
  unfold zt endM;rw [Uy,e,Option.bind_some,List.drop_drop];cases scan ((arsM xs).drop (k+q)) 1 with
  | none=>rfl
  | some j=>simp only [Option.map_some];congr 1;omega
theorem endsM_bd(xs:List TyI)(k i:Nat)(hk:k<=xs.length):zt xs k i = -1\/∃ n:Nat,zt xs k i=n/\k<=n/\n<=xs.length:=by
 unfold zt;cases e:scan ((arsM xs).drop k) i with
 | none=>exact .inl rfl
 | some q=>
  refine .inr ⟨k+q,rfl,by omega,?_⟩
  have:=scan_le _ _ _ e;have hl:((arsM xs).drop k).length=xs.length - k:=by unfold arsM;simp
  omega
def wD(xs:List TyI):Bool:=xs.all yU&&decide (endM xs 0=xs.length)
def uX(xs:List TyI):Bool:=decide (xs.length<=200)&&wD xs
def uG(xs:List TyI)(k m:Nat):Bool:=(xs.drop k).all yU&&decide (zt xs k m=xs.length)
theorem xa9(xs:List TyI):uG xs 0 1=wD xs:=by unfold uG wD;rw [endM_ends];rfl
theorem xca(xs:List TyI)(k:Nat)(h:k<xs.length):uG xs k 0=false:=by
 unfold uG;rw [UY,decide_eq_false (by omega),Bool.and_false]
theorem restM_bad(xs:List TyI)(k m:Nat)(h:k<xs.length)(hb:yU xs[k]=false):uG xs k m=false:=by
 unfold uG;rw [List.drop_eq_getElem_cons h,List.all_cons,hb];rfl
theorem xb9(xs:List TyI)(k m:Nat)(h:k<xs.length)(hb:yU xs[k]=true):uG xs k (m+1)=uG xs (k+1) (m+xs[k].ar.toNat):=by
 unfold uG;rw [List.drop_eq_getElem_cons h,List.all_cons,hb,Bool.true_and]
 congr 1
 have:zt xs k (m+1)=zt xs (k+1) (m+xs[k].ar.toNat):=by
  unfold zt;rw [VQ xs k h,scan];cases scan ((arsM xs).drop (k+1)) (m+xs[k].ar.toNat) with
  | none=>rfl
  | some j=>simp only [Option.map_some];congr 1;omega
 rw [this]
theorem restM_end(xs:List TyI)(k m:Nat)(h:k=xs.length):uG xs k m=decide (m=0):=by
 subst h;unfold uG zt;rw [List.drop_eq_nil_of_le (Nat.le_refl _),List.drop_eq_nil_of_le (by unfold arsM;simp)]
 cases m with
 | zero=>simp [scan]
 | succ m=>simp [scan]
end
section
open Go.RowKit
def iE(n:Int):List D:=[.s (.int .i64 n)]
theorem x5(n:Int):iE n=[.s (.int .i64 n)]:=rfl
abbrev yT(l:List Int):D:=.sl 1 (l.map iE)
def partR{α:Type}(f:α->List D)(z:List D)(xs:List α)(i:Nat):List (List D):=(xs.take i).map f++List.replicate (xs.length - i) z
section
variable {α:Type} {f:α->List D} {z:List D} {xs:List α} {i:Nat}
theorem yh{g:α->List D}(h:∀ x,frzL (f x)=g x)(xs:List α):xU (xs.map f)=xs.map g:=by
 rw [za,List.map_map];exact List.map_congr_left fun x _=>h x
end
theorem takeL{α:Type}{l:List α}{i:Nat}(h:l.length=i):l.take i=l:=List.take_of_length_le (by omega)
theorem Qa(a b:List (List D)):xU (a++b)=xU a++xU b:=by rw [za,za,za,List.map_append]
theorem frzLL_nil:xU []=[]:=rfl
theorem XJ(r:List D)(l:List (List D)):xU (r::l)=frzL r::xU l:=rfl
def smS{α:Type}(s:α->Prop)(xs:List α):Prop:=xs.length<=1048576/\∀ x∈xs,s x
theorem xN{a b:Int}(h:a=b):D.s (.int .i64 a)=.s (.int .i64 b):=by rw [h]
def cnts{α:Type}(c:α->Nat):List α->Nat
 | []=>0
 | x::l=>c x+cnts c l
section
variable {α:Type} {c:α->Nat} {m:Int->α->α}
theorem Y5{n:Nat}(hc:∀ x,c x=n):∀ (xs:List α),cnts c xs=n*xs.length
 | []=>rfl
 | x::l=>by rw [cnts,hc,Y5 hc l,List.length_cons,Nat.mul_add];omega
end
attribute [go_sem] takeL Qa frzLL_nil XJ Nat.le_refl
end
section
attribute [local go_sem] List.length_set List.set_set
open Go.RowKit Go.ChangeShapes Go.WideShapes
theorem U4(x:Int):frzL (iE x)=iE x:=rfl
theorem Vq(x:Int):∀ d∈iE x,Pure d:=by
 simp only [x5,List.forall_mem_cons,List.not_mem_nil,false_imp_iff,implies_true,and_true];exact .s _
theorem iE_pureS(e k:Nat)(xs:List Int):Pure (.osl e k (xs.map iE))=True:=eq_true (yI Vq e k xs)
attribute [go_sem] iE_pureS
theorem iE_frzS(xs:List Int):xU (xs.map iE)=xs.map iE:=yh U4 xs
attribute [go_sem] iE_frzS
end
section
attribute [local go_sem] List.length_set List.set_set
open Go.RowKit Go.ChangeShapes Go.WideShapes
def TyI.enc(x:TyI):List D:=[.s (.int .i64 x.v),.s (.string x.name),.s (.int .i64 x.ar)]
theorem TyI.enc_eq(x:TyI):x.enc=[.s (.int .i64 x.v),.s (.string x.name),.s (.int .i64 x.ar)]:=rfl
abbrev TyI.own(x:TyI):List D:=x.enc
theorem TyI.own_eq(x:TyI):x.own=[.s (.int .i64 x.v),.s (.string x.name),.s (.int .i64 x.ar)]:=rfl
theorem TyI.frz_eq(x:TyI):frzL x.own=x.enc:=by
 simp only [TyI.own_eq,TyI.enc_eq,frzL,frz]
def TyI.sm(x:TyI):Prop:=x.name.size<=1048576
theorem TyI.pure(x:TyI):∀ d∈x.own,Pure d:=by
 simp only [TyI.own_eq,List.forall_mem_cons,List.not_mem_nil,false_imp_iff,implies_true,and_true];exact ⟨.s _,.s _,.s _⟩
theorem TyI.pureS(e k:Nat)(xs:List TyI):Pure (.osl e k (xs.map TyI.own))=True:=eq_true (yI TyI.pure e k xs)
attribute [go_sem] TyI.pureS
theorem TyI.frzS(xs:List TyI):xU (xs.map TyI.own)=xs.map TyI.enc:=yh TyI.frz_eq xs
attribute [go_sem] TyI.frzS
end
section
open Go.RowKit Go.ChangeShapes Go.WideShapes
structure MTy where
 items:List TyI
def MTy.enc(x:MTy):List D:=[.sl 3 (x.items.map TyI.enc)]
theorem MTy.enc_eq(x:MTy):x.enc=[.sl 3 (x.items.map TyI.enc)]:=rfl
end
section
open Go.RowKit
theorem Qp(xs:List D):Pure (.tup xs)=∀ d∈xs,Pure d:=propext ⟨fun h d hd=>by
 obtain ⟨j,hj⟩:=List.mem_iff_getElem?.1 hd;cases h with
 | tup h=>exact h j d hj,fun h=>.tup fun j d hj=>h d (List.mem_of_getElem? hj)⟩
theorem Y4{α:Type}{c:α->Nat}{B:Nat}:∀ l:List α,(∀ x∈l,c x<=B)->cnts c l<=l.length*B
 | [],_=>by simp [cnts]
 | x::l,h=>by
  have:=Y4 l fun y hy=>h y (by simp [hy])
  have h2:=h x (by simp)
  rw [cnts,List.length_cons,Nat.add_mul];omega
end
section
open Go.RowKit Go.ChangeShapes Go.WideShapes
structure OnlyP(ty:TypeId)(p:Nat)(cs:Array Value)(w w':World):Prop where
 os:w'.os=w.os
 tape:w'.tape=w.tape
 output:w'.output=w.output
 size:w.heap.size<=w'.heap.size
 other:∀ b,b<w.heap.size->b≠p->w'.heap[b]?=w.heap[b]?
 at_p:w'.heap[p]?=some (.cells cs ty (0,0))
def curH(h:Int):Int:=wrap64 (wrap64 (h*6364136223846793005)+1442695040888963407)
def curX(H:Int):Int:=bits BinOp.and IntKind.i64 (bits BinOp.xor IntKind.i64 (H / 8589934592) (H / 35184372088832)) 255
def curY(H z:Int):Int:=bits BinOp.and IntKind.i64 (wrap64 (curX H+z)) 255
theorem Zr(x:Int):bits BinOp.and IntKind.i64 x 255=x % 256:=by
 have h1:(BitVec.ofInt 64 x &&& BitVec.ofInt 64 255).toNat=(x % 256).toNat:=by
  rw [BitVec.toNat_and];have e1:(BitVec.ofInt 64 (255:Int)).toNat=2 ^ 8 - 1:=by decide
  rw [e1,Nat.and_two_pow_sub_one_eq_mod,BitVec.toNat_ofInt];omega
 have e:bits BinOp.and IntKind.i64 x 255=IntKind.i64.wrap ((BitVec.ofInt 64 x &&& BitVec.ofInt 64 255).toNat:Int):=rfl;rw [e,h1,IntWalk.i64_in _ (by omega)]
 omega
theorem curX_bd(H:Int):0<=curX H/\curX H<=255:=by unfold curX;rw [Zr];omega
theorem curY_bd(H z:Int):0<=curY H z/\curY H z<=255:=by unfold curY;rw [Zr];omega
theorem Ud{w:World}{p j:Nat}{c:Array Value}{e:TypeId}{f:Nat×Nat}(h:w.heap[p]?=some (.cells c e f))(u:Value):(w.setCell ⟨p,j,none⟩ u).heap[p]?=some (.cells (c.setIfInBounds j u) e f):=by
 simp [World.setCell,Array.getElem?_modify,h]
theorem heap_set1{w:World}{p:Nat}{a b c:Value}{e:TypeId}{f:Nat×Nat}(h:w.heap[p]?=some (.cells #[a,b,c] e f))(u:Value)(n:Nat):((w.setCell ⟨p,2,none⟩ u).drewN n).heap[p]?=some (.cells #[a,b,u] e f):=
 Ud (j:=2) h u
theorem heap_set2{w:World}{p:Nat}{a b c:Value}{e:TypeId}{f:Nat×Nat}(h:w.heap[p]?=some (.cells #[a,b,c] e f))(u v:Value)(n:Nat):(((w.setCell ⟨p,2,none⟩ u).drewN n).setCell ⟨p,1,none⟩ v).heap[p]?=some (.cells #[a,v,u] e f):=
 Ud (j:=1) (heap_set1 h u n) v
theorem Z8(w:World)(p j:Nat)(u:Value)(b:Nat)(h:b≠p):(w.setCell ⟨p,j,none⟩ u).heap[b]?=w.heap[b]?:=Below.heap_setCell _ _ _ _ (by simpa using h)
theorem xal(w:World)(ty:TypeId)(p b off n c k:Nat)(hh z:Int)(hp:w.heap[p]?=some (.cells #[.slice (some ⟨b,off,none⟩) n c,.int .i64 k,.int .i64 hh] ty (0,0)))(hn:n<=maxLen)(hk:k<n)(hz:w.cell? ⟨b,off+k,none⟩=some (.int .u8 z))(hbp:b≠p)(z0:0<=z)(z1:z<256) :
  Calls Tryz.prog 126 #[.pointer (some ⟨p,0,none⟩)] w fun e w'=>e=.returned (.int .i64 (curY (curH hh) z))/\OnlyP ty p #[.slice (some ⟨b,off,none⟩) n c,.int .i64 (k+1),.int .i64 (curH hh)] w w':=by
 unfold maxLen at hn
 have c0:w.cell? ⟨p,0,none⟩=some (.slice (some ⟨b,off,none⟩) n c):=by simp [World.cell?,hp]
 have c1:w.cell? ⟨p,1,none⟩=some (.int .i64 k):=by simp [World.cell?,hp]
 have c2:w.cell? ⟨p,2,none⟩=some (.int .i64 hh):=by simp [World.cell?,hp]
 have f1:w.frozen? ⟨p,1,none⟩=false:=by simp [World.frozen?,hp]
 have f2:w.frozen? ⟨p,2,none⟩=false:=by simp [World.frozen?,hp]
 have hbp':¬ p=b:=fun e=>hbp e.symm
 have hk1:(k:Int)<n:=by omega
 have HC:=Lib.hid hp;clear hp
 go_enter Tryz.func126,Tryz.ntmps126
 go_wp2
 go_quiet (fail)
 go_wp2
 go_quiet (fail)
 go_wp2
 go_quiet (fail)
 go_wp2
 go_ret
 refine ⟨rfl,⟨rfl,rfl,rfl,by simp [World.setCell,World.drewN],fun b' hb' hne=>?_,heap_set2 HC.out _ _ _⟩⟩
 rw [Z8 _ _ _ _ _ hne];exact Z8 _ _ _ _ _ hne
theorem Z3(w:World)(ty:TypeId)(p n c k:Nat)(a:Option Addr)(hh:Int)(hp:w.heap[p]?=some (.cells #[.slice a n c,.int .i64 k,.int .i64 hh] ty (0,0)))(hn:n<=maxLen)(hk:n<=k) :
  Calls Tryz.prog 126 #[.pointer (some ⟨p,0,none⟩)] w fun e w'=>e=.returned (.int .i64 (curX (curH hh)))/\OnlyP ty p #[.slice a n c,.int .i64 k,.int .i64 (curH hh)] w w':=by
 unfold maxLen at hn
 have c0:w.cell? ⟨p,0,none⟩=some (.slice a n c):=by simp [World.cell?,hp]
 have c1:w.cell? ⟨p,1,none⟩=some (.int .i64 k):=by simp [World.cell?,hp]
 have c2:w.cell? ⟨p,2,none⟩=some (.int .i64 hh):=by simp [World.cell?,hp]
 have f1:w.frozen? ⟨p,1,none⟩=false:=by simp [World.frozen?,hp]
 have f2:w.frozen? ⟨p,2,none⟩=false:=by simp [World.frozen?,hp]
 have hk1:(n:Int)<=(k:Int):=by omega
 have HC:=Lib.hid hp;clear hp
 go_enter Tryz.func126,Tryz.ntmps126
 go_wp2
 go_quiet (fail)
 go_wp2
 go_quiet (fail)
 go_wp2
 go_ret
 refine ⟨rfl,⟨rfl,rfl,rfl,by simp [World.setCell,World.drewN],fun b' hb' hne=>?_,Ud (j:=2) HC.out _⟩⟩
 exact Z8 _ _ _ _ _ hne
def u8E(z:UInt8):List D:=[.s (.int .u8 z.toNat)]
theorem u8E_eq(z:UInt8):u8E z=[.s (.int .u8 z.toNat)]:=rfl
abbrev curD(zs:List UInt8)(k:Nat)(h:Int):D:=.opt [.sl 1 (zs.map u8E),.s (.int .i64 k),.s (.int .i64 h)]
def bytM(zs:List UInt8)(k:Nat)(h:Int):Int:=match zs[k]? with
 | some z=>curY (curH h) z.toNat
 | none=>curX (curH h)
def stepK(zs:List UInt8)(k:Nat):Nat:=if k<zs.length then k+1 else k
theorem bytM_bd(zs:List UInt8)(k:Nat)(h:Int):0<=bytM zs k h/\bytM zs k h<=255:=by
 unfold bytM;split
 .exact curY_bd _ _
 .exact curX_bd _
theorem c_l01Byte(zs:List UInt8)(k:Nat)(h:Int):FT 126 [curD zs k h] (fun r o=>r=.s (.int .i64 (bytM zs k h))/\o=[curD zs (stepK zs k) (curH h)]):=by
 refine ⟨fun vs w=>?_,fun w g vs hS hu hlen hv=>?_⟩
 .have h1:=Tryz.func126
  have hname':¬ Tryz.f126.name = "runtime.NumGoroutine" := by decide
  have hbn:¬ Tryz.f126.body=none:=by decide
  simp [callFunc,h1,hname',hbn]
 .obtain ⟨v,rfl,h0⟩:=Xf (P:=fun j d u=>RA g w j d u) hlen hv
  have h0:Rep g.S g.up w (some (.par 0 0)) (curD zs k h) v:=h0;cases h0 with
  | @opt _ _ p ty cs k1 k2 k3 k4=>
   have hsz:p<w.heap.size:=(hu p _ k1).1;have hnS:¬ g.S p:=(hu p _ k1).2;have r0:=k4 0 _ rfl;have r1:=Rep.s_inv (k4 1 _ rfl);have r2:=Rep.s_inv (k4 2 _ rfl);generalize hsv:cs.getD 0 undef=sv at r0
   have hcs:cs=#[sv,.int .i64 k,.int .i64 h]:=by
    apply Array.ext
    .simpa using k3
    .intro i h1 h2
     have e:cs[i]=cs.getD i undef:=by rw [Array.getD_eq_getD_getElem?,Array.getElem?_eq_getElem h1];rfl
     rw [e];have:i=0\/i=1\/i=2:=by simp at h2;omega
     rcases this with rfl|rfl|rfl
     .exact hsv
     .exact r1
     .exact r2
   subst hcs;have fin:∀ (x:Int) (k':Nat) (h':Int) (w':World),OnlyP ty p #[sv,.int .i64 k',.int .i64 h'] w w'->∃ v' g' r outs,(Ending.returned (.int .i64 x):Ending)=.returned v'/\Below 0 w w'/\(∀ b,b<w.heap.size->g.up b=none->w'.heap[b]?=w.heap[b]?)/\(∀ b,g.S b->Gh.S g' b)/\(∀ b,b<w.heap.size->g'.S b->g.S b\/g.up b≠none)/\(∀ b,g'.S b->b<w'.heap.size)/\(∀ b p,g'.up b=some p->b<w'.heap.size/\(b<w.heap.size->g.up b≠none)/\¬ g'.S b)/\(r=.s (.int .i64 x)/\outs=[curD zs k' h'])/\RNs g' w' r v'/\∀ (j:Nat) (d:D) (u:Value),outs[j]?=some d->[Value.pointer (some ⟨p,0,none⟩)][j]?=some u->RU g' w' j d u:=by
    intro x k' h' w' o;have hup:∀ b,b<w.heap.size->g.up b=none->w'.heap[b]?=w.heap[b]?:=fun b q1 q2=>o.other b q1 (fun q=>by subst q;rw [k1] at q2;cases q2)
    have mv:Mv (fun _=>False) (fun q=>q) g g w w':=⟨fun b hb=>⟨hb,o.other b (hS b hb) (fun q=>hnS (q ▸ hb))⟩,fun b q _ f=>f.elim,fun b q o' _ f=>f.elim⟩
    refine ⟨_,g,.s (.int .i64 x),_,rfl,⟨o.os,o.tape,o.output,o.size,fun b hb=>absurd hb (by omega)⟩,hup,fun _ q=>q,fun _ _ q=>.inl q,fun b q=>Nat.lt_of_lt_of_le (hS b q) o.size,fun b q hq=>⟨Nat.lt_of_lt_of_le (hu b q hq).1 o.size,fun _=>(by rw [hq];simp),(hu b q hq).2⟩,⟨rfl,rfl⟩,Rep.s rfl,fun j d u q1 q2=>?_⟩
    cases j with
    | succ j=>simp at q1
    | zero=>
     simp at q1 q2
     subst q1 q2;refine Rep.opt _ k1 o.at_p rfl fun j d hj=>?_
     match j,hj with
     | 0,hj=>
      simp at hj;subst hj
      have f1:=r0.free (fun _ _ _ q=>by cases q) (fun _ q=>by cases q) none
      exact (Rep.move mv f1 (fun q hq=>by cases hq)).free (fun _ _ _ q=>by cases q) (fun _ q=>by cases q) _
     | 1,hj=>simp at hj;subst hj;exact Rep.s rfl
     | 2,hj=>simp at hj;subst hj;exact Rep.s rfl
   have hr:=r0;generalize hrows:zs.map u8E=rows at hr
   cases hr with
   | sl0 hc=>
    have hz:zs=[]:=by simpa using hrows
    subst hz;refine (Z3 w ty p 0 _ k _ h k2 (Nat.zero_le _) (Nat.zero_le _)).mono ?_
    rintro e w' ⟨rfl,o⟩
    exact fin _ _ _ w' o
   | @sl _ _ _ b off c us c1 c2 c3 c4 c5=>
    subst hrows;have hl:(zs.map u8E).length=zs.length:=by simp
    by_cases hk:k<zs.length
    .have hg:(zs.map u8E)[k]?=some (u8E zs[k]):=by rw [List.getElem?_map,List.getElem?_eq_getElem hk];rfl
     obtain ⟨s1,s2⟩:=c4 k 0 _ _ hg rfl;have s3:=Rep.s_inv (c5 k 0 _ _ hg rfl);rw [s3,show off+k*1+0=off+k by omega] at s2
     have hzb:=UInt8.toNat_lt zs[k];have e1:bytM zs k h=curY (curH h) (zs[k].toNat:Int):=by unfold bytM;rw [List.getElem?_eq_getElem hk]
     have e2:stepK zs k=k+1:=if_pos hk;rw [e1,e2];refine (xal w ty p b off _ c k h _ k2 (by omega) (by omega) s2 (fun q=>hnS (q ▸ s1)) (by omega) (by omega)).mono ?_
     rintro e w' ⟨rfl,o⟩
     exact fin _ (k+1) _ w' (by simpa using o)
    .have e1:bytM zs k h=curX (curH h):=by unfold bytM;rw [List.getElem?_eq_none (by omega)]
     have e2:stepK zs k=k:=if_neg hk;rw [e1,e2];refine (Z3 w ty p _ c k _ h k2 (by omega) (by omega)).mono ?_
     rintro e w' ⟨rfl,o⟩
     exact fin _ _ _ w' o
structure Cur where
 zs:List UInt8
 k:Nat
 h:Int
abbrev Cur.d(c:Cur):D:=curD c.zs c.k c.h
def Cur.nx(c:Cur):Cur:=⟨c.zs,stepK c.zs c.k,curH c.h⟩
def Cur.b(c:Cur):Int:=bytM c.zs c.k c.h
theorem Cur.b_bd(c:Cur):0<=c.b/\c.b<=255:=bytM_bd _ _ _
theorem ZG(c:Cur):FT 126 [c.d] (fun r o=>r=.s (.int .i64 c.b)/\o=[c.nx.d]):=c_l01Byte _ _ _
def Cur.below(c:Cur)(n:Int):Int×Cur:=if n<=0 then (0,c) else if n<=256 then (c.b.tmod n,c.nx) else ((c.b*16777216+c.nx.b*65536+c.nx.nx.b*256+c.nx.nx.nx.b).tmod n,c.nx.nx.nx.nx)
theorem Cur.below_bd(c:Cur){n:Int}(h:0<n):0<=(c.below n).1/\(c.below n).1<n:=by
 have a1:=c.b_bd;have a2:=c.nx.b_bd;have a3:=c.nx.nx.b_bd;have a4:=c.nx.nx.nx.b_bd;unfold Cur.below;rw [if_neg (by omega)]
 split
 .exact ⟨Int.tmod_nonneg _ a1.1,Int.tmod_lt_of_pos _ h⟩
 .exact ⟨Int.tmod_nonneg _ (by omega),Int.tmod_lt_of_pos _ h⟩
theorem c_below(c:Cur)(n:Int)(hn:n<=4294967296):FT 53 [c.d,.s (.int .i64 n)] (fun r o=>r=.s (.int .i64 (c.below n).1)/\o=[(c.below n).2.d,.un]):=by
 by_cases h0:n<=0
 .have e:c.below n=(0,c):=by unfold Cur.below;rw [if_pos h0]
  rw [e];refine FI PM Tryz.func53 Tryz.ntmps53 [] rfl rfl ?_
  (have hWf:=f0;repeat' (first|refine zS ?_|refine zI ?_ ?_|exact zF0|refine zD fun hb=>?_|exact zC|refine zT ?_|fail))
 .by_cases h1:n<=256
  .have e:c.below n=(c.b.tmod n,c.nx):=by unfold Cur.below;rw [if_neg h0,if_pos h1]
   rw [e];refine FI PM Tryz.func53 Tryz.ntmps53 [] rfl rfl ?_
   (have hWf:=f0;repeat' (first|refine zS ?_|refine zI ?_ ?_|refine zH (ZG c) ?_|exact zF0|refine zD fun hb=>?_|exact zC|refine zT ?_|fail))
   trace_state
  .have e:c.below n=((c.b*16777216+c.nx.b*65536+c.nx.nx.b*256+c.nx.nx.nx.b).tmod n,c.nx.nx.nx.nx):=by unfold Cur.below;rw [if_neg h0,if_neg h1]
   have a1:=c.b_bd;have a2:=c.nx.b_bd;have a3:=c.nx.nx.b_bd;have a4:=c.nx.nx.nx.b_bd;rw [e];refine FI PM Tryz.func53 Tryz.ntmps53 [] rfl rfl ?_
   (have hWf:=f0;repeat' (first|refine zS ?_|refine zI ?_ ?_|refine zH (ZG c) ?_|refine zH (ZG c.nx) ?_|refine zH (ZG c.nx.nx) ?_|refine zH (ZG c.nx.nx.nx) ?_|exact zF0|refine zD fun hb=>?_|exact zC|refine zT ?_|fail))
   trace_state
def bytR(_:Hp)(r:List Value)(z:UInt8):Prop:=r=[.int .u8 z.toNat]
abbrev BytS(h:Hp)(v:Value)(zs:List UInt8):Prop:=SlOf 1 bytR h v zs
theorem BytS.cell{h:Hp}{a:Option Addr}{n c:Nat}{zs:List UInt8}(x:BytS h (.slice a n c) zs){i:Nat}(hi:i<zs.length) :
  ∃ b off,a=some ⟨b,off,none⟩/\∀ j (hj:j<zs.length) (w:World),Sub h w->w.cell? ⟨b,off+j,none⟩=some (.int .u8 zs[j].toNat):=by
 obtain ⟨a',c',e,_,_,r⟩:=x;injection e with e1 e2 e3
 subst e1;rcases r with rfl|⟨b,off,ea,hc⟩
 .simp at hi
 .refine ⟨b,off,ea,fun j hj w hw=>?_⟩
  obtain ⟨r,hr1,hr2,hr3⟩:=hc j hj;rw [hr3] at hr2
  have:=hr2.cell hw (i:=0) (by simp)
  rw [Nat.mul_one] at this
  simpa using this
theorem xbe(w:World)(sl:Value)(zs:List UInt8)(hb:BytS (hp w) sl zs) :
  Calls Tryz.prog 39 #[sl] w fun e w'=>∃ hh:Int,e=.returned (.pointer (some ⟨w.heap.size,0,none⟩))/\w'=w.alloc (.cells #[sl,.int .i64 0,.int .i64 hh] 145):=by
 have HB:=Lib.hid hb;obtain ⟨a,c,rfl,hc1,hc2,-⟩:=hb;unfold maxLen at hc2
 go_enter Tryz.func39,Tryz.ntmps39
 go_wp2
 go_loop [3,4] (fun hv i=>∃ (k:Nat) (hh:Int),k<=zs.length/\i=.int .i64 k/\hv=.int .i64 hh) (fun _ i=>zs.length - (intOf i).toNat)
 case atStart=>exact ⟨0,_,by omega,rfl,rfl⟩
 case round=>
  obtain ⟨k,hh,hk,rfl,rfl⟩:=hrel
  by_cases hlt:k<zs.length/\k<4000
  .obtain ⟨hlt,h4⟩:=hlt
   obtain ⟨b,off,rfl,hcell⟩:=HB.out.cell hlt;have cb:=hcell k hlt w (Sub.self w);clear hcell
   go_wp2
   go_round
   case rel=>exact ⟨k+1,_,by omega,by go_num,rfl⟩
   case measure=>simp [intOf];omega
  .by_cases h4:k<zs.length
   .have h5:¬ (k:Int)<4000:=by omega
    have h6:(k:Int)<zs.length:=by omega
    clear hlt
    go_wp2
    go_ret
    first|exact ⟨rfl,hh,rfl⟩|exact ⟨hh,rfl,rfl⟩
   .have h6:¬ (k:Int)<zs.length:=by omega
    clear hlt
    go_wp2
    go_ret
    first|exact ⟨rfl,hh,rfl⟩|exact ⟨hh,rfl,rfl⟩
theorem QX(zs:List UInt8):FT 39 [.sl 1 (zs.map u8E)] (fun r _=>∃ h:Int,r=(⟨zs,0,h⟩:Cur).d):=by
 refine ⟨fun vs w=>?_,fun w g vs hS hu hlen hv=>?_⟩
 .have h1:=Tryz.func39
  have hname':¬ Tryz.f39.name = "runtime.NumGoroutine" := by decide
  have hbn:¬ Tryz.f39.body=none:=by decide
  simp [callFunc,h1,hname',hbn]
 .obtain ⟨v,rfl,h0⟩:=Xf (P:=fun j d u=>RA g w j d u) hlen hv
  have h0:Rep g.S g.up w (some (.par 0 0)) (.sl 1 (zs.map u8E)) v:=h0;have f1:=h0.free (fun _ _ _ q=>by cases q) (fun _ q=>by cases q) none
  have hb:BytS (hp w) v zs:=Rep.slOf (enc:=u8E) (k:=1) (R:=bytR) (fun _ _=>rfl) (by decide) (fun r x _ hr=>by
   obtain ⟨h1,h2⟩:=hr
   match r,h1 with
   | [u],_=>exact congrArg (fun z=>[z]) (Rep.s_inv (h2 0 _ u rfl rfl))) f1
  refine (xbe w v zs hb).mono ?_
  rintro e w' ⟨hh,rfl,rfl⟩
  have hold:∀ b,b<w.heap.size->(w.alloc (.cells #[v,.int .i64 0,.int .i64 hh] 145)).heap[b]?=w.heap[b]?:=fun b hb=>Below.heap_alloc _ _ _ hb
  have hnew:(w.alloc (.cells #[v,.int .i64 0,.int .i64 hh] 145)).heap[w.heap.size]?=some (.cells #[v,.int .i64 0,.int .i64 hh] 145 (0,0)):=by
   show (w.heap.push _)[w.heap.size]?=_
   simp
  let up':Nat->Option Pos:=fun b=>if b=w.heap.size then some (.ans 0 0) else none
  have hsz:(w.alloc (.cells #[v,.int .i64 0,.int .i64 hh] 145)).heap.size=w.heap.size+1:=by simp
  have mv:Mv (fun _=>False) (fun q=>q) g ⟨g.β,g.κ,up',g.S⟩ w (w.alloc (.cells #[v,.int .i64 0,.int .i64 hh] 145)):=⟨fun b hb=>⟨hb,hold b (hS b hb)⟩,fun b q _ f=>f.elim,fun b q o' _ f=>f.elim⟩
  refine ⟨_,⟨g.β,g.κ,up',g.S⟩,(⟨zs,0,hh⟩:Cur).d,[],rfl,(Below.refl _ _).alloc (Nat.zero_le _) _,fun b q _=>hold b q,fun _ q=>q,fun _ _ q=>.inl q,fun b q=>by rw [hsz];have:=hS b q;omega,fun b q hq=>?_,⟨hh,rfl⟩,?_,fun j d u q=>by simp at q⟩
  .have hb':b=w.heap.size:=by
    by_cases e:b=w.heap.size
    .exact e
    .have:up' b=none:=if_neg e
     exact absurd (hq.symm.trans this) (by simp)
   subst hb';exact ⟨by rw [hsz];omega,fun q=>absurd q (by omega),fun q=>by have:=hS _ q;omega⟩
  .refine Rep.opt (p:=.ans 0 0) _ (if_pos rfl) hnew rfl fun j d hj=>?_
   match j,hj with
   | 0,hj=>
    simp at hj;subst hj
    exact (Rep.move mv f1 (fun q hq=>by cases hq)).free (fun _ _ _ q=>by cases q) (fun _ q=>by cases q) _
   | 1,hj=>simp at hj;subst hj;exact Rep.s rfl
   | 2,hj=>simp at hj;subst hj;exact Rep.s rfl
theorem rdE_u8:RdE 5 1 u8E (fun _=>True):=by
 refine ⟨by kernel_rfl,fun H en W n cs x h=>?_⟩
 obtain ⟨z,rfl,-,hz⟩:=DataW.trod_int Tryz.underlying5 h;simp only [Lit.wf,IntKind.min,IntKind.max,IntKind.signed,IntKind.bits,Bool.and_eq_true] at hz
 simp at hz
 refine ⟨UInt8.ofNat z.toNat,?_,trivial⟩;have e:((UInt8.ofNat z.toNat).toNat:Int)=z:=by rw [UInt8.toNat_ofNat'];omega
 rw [u8E_eq,e];exact xaB (.s rfl)
theorem rdE_bytes:RdE 36 1 (fun zs:List UInt8=>[.sl 1 (zs.map u8E)]) (fun zs=>∀ z∈zs,True):=RdE.slice Tryz.underlying36 (by kernel_rfl) (by decide) rdE_u8
end
section
def valL(l:List UInt8):Int:=l.foldl (fun a d=>10*a+((d.toNat:Int) - 48)) 0
theorem Wf(l:List UInt8)(d:UInt8):valL (l++[d])=10*valL l+((d.toNat:Int) - 48):=by
 simp [valL,List.foldl_append]
def XY(l:List UInt8):Prop:=∀ d∈l,48<=d.toNat/\d.toNat<=57
theorem Q6:∀ (n:Nat),XY (decL n):=by
 intro n
 induction n using Nat.strongRecOn with
 | _ n ih=>
  by_cases h:n<10
  .rw [wV h]
   intro d hd
   simp at hd
   subst hd;rw [vX h];omega
  .rw [vW h]
   intro d hd;rcases List.mem_append.1 hd with hd|hd
   .exact ih (n / 10) (by omega) d hd
   .simp at hd
    subst hd;rw [vX (by omega)];omega
theorem Qu:∀ (n:Nat),valL (decL n)=n:=by
 intro n
 induction n using Nat.strongRecOn with
 | _ n ih=>
  by_cases h:n<10
  .rw [wV h]
   simp [valL,vX h];omega
  .rw [vW h,Wf,ih (n / 10) (by omega),vX (by omega)]
   omega
theorem xbh{l:List UInt8}(h:XY l):0<=valL l:=by
 have key:∀ (l:List UInt8) (a:Int),0<=a->XY l->0<=l.foldl (fun a d=>10*a+((d.toNat:Int) - 48)) a:=by
  intro l
  induction l with
  | nil=>intro a ha _;exact ha
  | cons d l ih=>
   intro a ha h;have h2:=h d (by simp)
   exact ih _ (by show 0<=10*a+((d.toNat:Int) - 48);omega) (fun x hx=>h x (List.mem_cons_of_mem _ hx))
 exact key l 0 (by omega) h
theorem Wg{l:List UInt8}(h:XY l)(k:Nat)(hk:k<l.length):10*valL (l.take k)<=valL (l.take (k+1)):=by
 rw [List.take_succ_eq_append_getElem hk,Wf];have:=h _ (List.getElem_mem hk);omega
theorem xaT{l:List UInt8}(h:XY l)(k:Nat):XY (l.take k):=fun d hd=>h d (List.mem_of_mem_take hd)
theorem VK{l:List UInt8}(h:XY l)(k:Nat):∀ j,k<=j->valL (l.take k)<=valL (l.take j):=by
 intro j hj
 induction j with
 | zero=>
  have:k=0:=by omega
  subst this;exact Int.le_refl _
 | succ j ih=>
  by_cases e:k=j+1
  .subst e;exact Int.le_refl _
  .have h1:=ih (by omega)
   by_cases hl:j<l.length
   .have h2:=Wg h j hl
    have h3:=xbh (xaT h j);omega
   .rw [List.take_of_length_le (by omega:l.length<=j+1)]
    rw [List.take_of_length_le (by omega:l.length<=j)] at h1
    exact h1
def offL(l:List UInt8):Nat:=match l with|45::_=>1|_=>0
def yW(l:List UInt8)(k:Nat):Int:=valL ((l.take k).drop (offL l))
theorem YK(l:List UInt8)(k:Nat)(h:k<=offL l):yW l k=0:=by
 unfold yW;rw [List.drop_eq_nil_of_le (by simp;omega)];rfl
theorem xcq(l:List UInt8)(k:Nat)(h:offL l<=k)(hk:k<l.length):yW l (k+1)=10*yW l k+((l[k].toNat:Int) - 48):=by
 unfold yW;rw [List.take_succ_eq_append_getElem hk,List.drop_append_of_le_length (by simp;omega),Wf]
noncomputable def txtO(l:List UInt8):Option Int:=open Classical in if h:l≠[]/\∃ n,numT n=l then some h.2.choose else none
theorem offL_of{l:List UInt8}(h0:l[0]?=some 45):offL l=1:=by
 cases l with
 | nil=>simp at h0
 | cons b l=>simp at h0;subst h0;rfl
theorem xas{l:List UInt8}(h0:l[0]?≠some 45):offL l=0:=by
 cases l with
 | nil=>rfl
 | cons b l=>
  unfold offL;split
  .rename_i e;injection e with e _;subst e;simp at h0
  .rfl
theorem U5{n:Int}{l:List UInt8}(h:numT n=l)(hl:l≠[]):∃ m:Nat,(m:Int)<=4611686018427387904/\l.drop (offL l)=decL m/\(offL l=1->n = -(m:Int))/\(offL l=0->n=(m:Int))/\l.length<=20:=by
 have hlen:=uv n;rw [h] at hlen
 unfold numT at h
 split at h
 .rename_i hr
  split at h
  .rename_i hn
   have e:offL l=1:=by rw [<- h];rfl
   refine ⟨n.natAbs,by omega,by rw [e,<- h];rfl,fun _=>by omega,fun e'=>by omega,hlen⟩
  .rename_i hn
   have e:offL l=0:=by
    apply xas;intro h0;have hd:=Q6 n.natAbs;rw [h] at hd
    have:=hd 45 (List.mem_of_getElem? h0)
    simp at this
   exact ⟨n.natAbs,by omega,by rw [e,<- h];rfl,fun e'=>by omega,fun _=>by omega,hlen⟩
 .exact absurd h.symm hl
theorem xaM{l:List UInt8}{k:Nat}(hk:k<l.length)(ho:offL l<=k)(hb:¬ (48<=l[k].toNat/\l[k].toNat<=57)\/500000000000000000<yW l k):txtO l=none:=by
 unfold txtO;rw [dif_neg]
 rintro ⟨hl,n,hn⟩
 obtain ⟨m,hm,hd,_,_,_⟩:=U5 hn hl;have hdig:=Q6 m;have hidx:l[k]∈decL m:=by
  rw [<- hd];have:(l.drop (offL l))[k - offL l]?=some l[k]:=by
   rw [List.getElem?_drop,show offL l+(k - offL l)=k by omega,List.getElem?_eq_getElem hk]
  exact List.mem_of_getElem? this
 rcases hb with hb|hb
 .exact hb (hdig _ hidx)
 .have hv:yW l k=valL ((decL m).take (k - offL l)):=by
   unfold yW;rw [List.drop_take,hd]
  have hlen:k - offL l<(decL m).length:=by rw [<- hd,List.length_drop];omega
  have h1:=Wg hdig (k - offL l) hlen;have h2:=VK hdig (k - offL l+1) (decL m).length (by omega)
  rw [List.take_length,Qu] at h2
  rw [hv] at hb
  omega
theorem txtO_len{l:List UInt8}(h:l.length<1\/20<l.length):txtO l=none:=by
 unfold txtO;rw [dif_neg]
 rintro ⟨hl,n,hn⟩
 have:=uv n;rw [hn] at this
 rcases h with h|h
 .exact hl (List.length_eq_zero_iff.1 (by omega))
 .omega
theorem txt_val{l:List UInt8}{n:Int}(hn:numT n=l)(hl:l≠[])(z:Int)(hz:z=if offL l=1 then - yW l l.length else yW l l.length):n=z:=by
 obtain ⟨m,hm,hd,h1,h0,_⟩:=U5 hn hl;have hv:yW l l.length=m:=by unfold yW;rw [List.take_length,hd,Qu]
 have ho:offL l=0\/offL l=1:=by unfold offL;split<;>simp
 rcases ho with ho|ho
 .rw [hz,if_neg (by omega),hv];exact h0 ho
 .rw [hz,if_pos ho,hv];exact h1 ho
theorem xaN{l:List UInt8}(hl:l≠[])(z:Int)(hz:z=if offL l=1 then - yW l l.length else yW l l.length)(h:numT z=l):txtO l=some z:=by
 unfold txtO;have hx:l≠[]/\∃ n,numT n=l:=⟨hl,z,h⟩;rw [dif_pos hx];rw [txt_val hx.2.choose_spec hl z hz]
theorem txtO_no{l:List UInt8}(hl:l≠[])(z:Int)(hz:z=if offL l=1 then - yW l l.length else yW l l.length)(h:numT z≠l):txtO l=none:=by
 unfold txtO;rw [dif_neg]
 rintro ⟨_,n,hn⟩
 exact h (txt_val hn hl z hz ▸ hn)
end
section
open Go.RowKit
def hexI(n:Int):Int:=if n<10 then 48+n else 87+n
theorem hexI_bd{n:Int}(h0:0<=n)(h1:n<16):48<=hexI n/\hexI n<=102:=by unfold hexI;split<;>omega
def hexB(n:Nat):UInt8:=UInt8.ofNat (hexI n).toNat
theorem hexV{n:Int}(h0:0<=n)(h1:n<16):Value.int .u8 (hexI n)=yB (hexB n.toNat):=by
 have:=hexI_bd h0 h1;rw [QV (by omega) (by omega),hexB,Int.toNat_of_nonneg h0]
def quoB(b:UInt8):List UInt8:=
 if b.toNat=10 then [92,110] else if b.toNat=34\/b.toNat=92 then [92,b] else if 32<=b.toNat/\b.toNat<=126 then [b]
 else [92,120,hexB (b.toNat / 16),hexB (b.toNat % 16)]
theorem quoB_n{b:UInt8}(h:b.toNat=10):quoB b=[92,110]:=by rw [quoB,if_pos h]
theorem quoB_e{b:UInt8}(h0:¬ b.toNat=10)(h:b.toNat=34\/b.toNat=92):quoB b=[92,b]:=by rw [quoB,if_neg h0,if_pos h]
theorem quoB_p{b:UInt8}(h0:¬ b.toNat=10)(h:¬ (b.toNat=34\/b.toNat=92))(h2:32<=b.toNat/\b.toNat<=126):quoB b=[b]:=by rw [quoB,if_neg h0,if_neg h,if_pos h2]
theorem quoB_x{b:UInt8}(h0:¬ b.toNat=10)(h:¬ (b.toNat=34\/b.toNat=92))(h2:¬ (32<=b.toNat/\b.toNat<=126)):quoB b=[92,120,hexB (b.toNat / 16),hexB (b.toNat % 16)]:=by rw [quoB,if_neg h0,if_neg h,if_neg h2]
theorem quoB_len(b:UInt8):(quoB b).length<=4:=by unfold quoB;split;simp;split;simp;split<;>simp
def quoP(l:List UInt8)(k:Nat):List UInt8:=34::(l.take k).flatMap quoB
def quoL(l:List UInt8):List UInt8:=34::l.flatMap quoB++[34]
theorem Qq(l:List UInt8):quoP l 0=[34]:=by simp [quoP]
theorem Xw(l:List UInt8)(k:Nat)(h:k<l.length):quoP l (k+1)=quoP l k++quoB l[k]:=by
 unfold quoP;rw [List.take_succ_eq_append_getElem h,List.flatMap_append];simp
theorem Yf(l:List UInt8)(k:Nat)(h:k=l.length):quoP l k++[34]=quoL l:=by
 subst h;simp [quoP,quoL]
theorem Yg(l:List UInt8):∀ k,(quoP l k).length<=4*k+1
 | 0=>by simp [quoP]
 | k+1=>by
  by_cases h:k<l.length
  .rw [Xw l k h,List.length_append]
   have:=Yg l k;have:=quoB_len l[k];omega
  .have e:quoP l (k+1)=quoP l k:=by unfold quoP;rw [List.take_of_length_le (by omega),List.take_of_length_le (by omega)]
   rw [e];have:=Yg l k;omega
theorem xaA(l:List UInt8):(quoL l).length<=4*l.length+2:=by
 rw [<- Yf l l.length rfl,List.length_append];have:=Yg l l.length
 simp;omega
noncomputable def unqO(l:List UInt8):Option (List UInt8):=open Classical in if h:∃ t,quoL t=l then some h.choose else none
def UInv(l:List UInt8)(i:Nat)(out:List UInt8):Prop:=∀ t,quoL t=l->∃ j,j<=t.length/\i=(quoP t j).length/\out=t.take j
theorem Zj(t:List UInt8)(j:Nat)(h:j<t.length):quoL t=quoP t j++(quoB t[j]++((t.drop (j+1)).flatMap quoB++[34])):=by
 have e:t=t.take j++t[j]::t.drop (j+1):=by rw [<- List.drop_eq_getElem_cons h,List.take_append_drop]
 unfold quoL quoP
 conv=>lhs;rw [e]
 rw [List.flatMap_append,List.flatMap_cons]
 simp [List.append_assoc]
theorem UInv.start(l:List UInt8):UInv l 1 []:=fun t _=>⟨0,Nat.zero_le _,by simp [quoP],by simp⟩
theorem UInv.done{l out:List UInt8}{i:Nat}(h:UInv l i out)(hi:l.length<=i+1):∀ t,quoL t=l->out=t:=by
 intro t ht;obtain ⟨j,hj,e,eo⟩:=h t ht;have hl:l.length=(quoP t t.length).length+1:=by rw [<- ht,<- Yf t t.length rfl,List.length_append];rfl
 by_cases hlt:j<t.length
 .have:=congrArg List.length (Zj t j hlt)
  rw [ht,List.length_append,List.length_append,List.length_append] at this
  have h1:1<=(quoB t[j]).length:=by unfold quoB;split;simp;split;simp;split<;>simp
  simp at this
  omega
 .rw [eo,List.take_of_length_le (by omega)]
theorem unqO_none{l out:List UInt8}(h:∀ t,quoL t=l->out=t)(hq:quoL out≠l):unqO l=none:=by
 unfold unqO;rw [dif_neg]
 rintro ⟨t,ht⟩
 exact hq (h t ht ▸ ht)
theorem unqO_some{l out:List UInt8}(h:∀ t,quoL t=l->out=t)(hq:quoL out=l):unqO l=some out:=by
 unfold unqO;have hx:∃ t,quoL t=l:=⟨out,hq⟩;rw [dif_pos hx];rw [h _ hx.choose_spec]
theorem QS{l:List UInt8}{i k:Nat}{t:List UInt8}{j:Nat}(ht:quoL t=l)(hj:j<t.length)(hi:i=(quoP t j).length)(hk:k<(quoB t[j]).length):l[i+k]?=(quoB t[j])[k]?:=by
 rw [<- ht,Zj t j hj,hi,List.getElem?_append_right (by omega),List.getElem?_append_left (by omega)]
 congr 1;omega
theorem UInv.in_text{l out:List UInt8}{i:Nat}(h:UInv l i out)(hi:i+1<l.length)(t:List UInt8)(ht:quoL t=l):∃ j,∃ hj:j<t.length,i=(quoP t j).length/\out=t.take j:=by
 obtain ⟨j,hj,e,eo⟩:=h t ht;have:j<t.length:=by
  rcases Nat.lt_or_ge j t.length with h|h
  .exact h
  .exfalso
   have:j=t.length:=by omega
   subst this;have hl:l.length=(quoP t t.length).length+1:=by rw [<- ht,<- Yf t t.length rfl,List.length_append];rfl
   omega
 exact ⟨j,this,e,eo⟩
theorem take_snoc'(t:List UInt8)(j:Nat)(h:j<t.length):t.take (j+1)=t.take j++[t[j]]:=List.take_succ_eq_append_getElem h
theorem UInv.go{l out:List UInt8}{i n:Nat}{b:UInt8}(h:UInv l i out)(hi:i+1<l.length)
  (hs:∀ (t:List UInt8) (j:Nat) (_hj:j<t.length),(∀ k,k<(quoB t[j]).length->l[i+k]?=(quoB t[j])[k]?)->(quoB t[j]).length=n/\t[j]=b):UInv l (i+n) (out++[b]):=by
 intro t ht;obtain ⟨j,hj,e,eo⟩:=h.in_text hi t ht;obtain ⟨h1,h2⟩:=hs t j hj (fun k hk=>QS ht hj e hk)
 refine ⟨j+1,hj,?_,?_⟩
 .rw [Xw t j hj,List.length_append,h1,e]
 .rw [eo,take_snoc' t j hj,h2]
theorem XP(b:UInt8):(quoB b=[92,110]/\b=10)\/(quoB b=[92,b]/\(b=34\/b=92))\/(quoB b=[b]/\b≠92)\/quoB b=[92,120,hexB (b.toNat / 16),hexB (b.toNat % 16)]:=by
 by_cases h0:b.toNat=10
 .exact .inl ⟨quoB_n h0,by apply UInt8.toNat.inj;rw [h0];rfl⟩
 .by_cases h1:b.toNat=34\/b.toNat=92
  .refine .inr (.inl ⟨quoB_e h0 h1,h1.imp (fun h=>?_) (fun h=>?_)⟩)<;>(apply UInt8.toNat.inj;rw [h];rfl)
  .by_cases h2:32<=b.toNat/\b.toNat<=126
   .refine .inr (.inr (.inl ⟨quoB_p h0 h1 h2,fun e=>h1 (.inr (by rw [e];rfl))⟩))
   .exact .inr (.inr (.inr (quoB_x h0 h1 h2)))
theorem UInv.plain{l out:List UInt8}{i:Nat}{b:UInt8}(h:UInv l i out)(hi:i+1<l.length)(hb:l[i]?=some b)(hne:b≠92):UInv l (i+1) (out++[b]):=
 h.go hi fun t j hj ha=>by
  have h0:=ha 0;rcases XP t[j] with ⟨e,_⟩|⟨e,_⟩|⟨e,_⟩|e<;>rw [e] at h0 ⊢ <;> simp [hb] at h0<;>first|exact absurd h0 hne|exact ⟨rfl,h0.symm⟩
theorem UInv.newline{l out:List UInt8}{i:Nat}(h:UInv l i out)(hi:i+1<l.length)(hb:l[i]?=some 92)(hc:l[i+1]?=some 110):UInv l (i+2) (out++[10]):=
 h.go hi fun t j hj ha=>by
  have h0:=ha 0;have h1:=ha 1;rcases XP t[j] with ⟨e,e'⟩|⟨e,e'⟩|⟨e,e'⟩|e<;>rw [e] at h0 h1 ⊢ <;> simp [hb,hc] at h0 h1
  .exact ⟨rfl,e'⟩
  .rcases e' with e'|e'<;>rw [e'] at h1<;>simp at h1
  .exact absurd h0.symm e'
theorem UInv.escaped{l out:List UInt8}{i:Nat}{c:UInt8}(h:UInv l i out)(hi:i+1<l.length)(hb:l[i]?=some 92)(hc:l[i+1]?=some c)(h1:c≠110)(h2:c≠120\/l.length<=i+4):UInv l (i+2) (out++[c]):=by
 intro t ht;obtain ⟨j,hj,e,eo⟩:=h.in_text hi t ht;have ha:=fun k hk=>QS (k:=k) ht hj e hk
 have h0:=ha 0;have h1':=ha 1;have hlen:=congrArg List.length (Zj t j hj);rw [ht] at hlen
 have key:(quoB t[j]).length=2/\t[j]=c:=by
  rcases XP t[j] with ⟨q,e'⟩|⟨q,e'⟩|⟨q,e'⟩|q<;>rw [q] at h0 h1' hlen ⊢ <;> simp [hb,hc] at h0 h1'
  .exact absurd h1' h1
  .exact ⟨rfl,h1'.symm⟩
  .exact absurd h0.symm e'
  .exfalso
   rcases h2 with h2|h2
   .exact h2 h1'
   .simp at hlen;omega
 refine ⟨j+1,hj,?_,?_⟩
 .rw [Xw t j hj,List.length_append,key.1,e]
 .rw [eo,take_snoc' t j hj,key.2]
theorem UInv.hex{l out:List UInt8}{i:Nat}{c d b:UInt8}(h:UInv l i out)(hi:i+1<l.length)(hb:l[i]?=some 92)(hx:l[i+1]?=some 120)(hc:l[i+2]?=some c)(hd:l[i+3]?=some d)
  (hv:∀ x:UInt8,c=hexB (x.toNat / 16)->d=hexB (x.toNat % 16)->x=b):UInv l (i+4) (out++[b]):=
 h.go hi fun t j hj ha=>by
  have h0:=ha 0;have h1:=ha 1;have h2:=ha 2;have h3:=ha 3;rcases XP t[j] with ⟨e,e'⟩|⟨e,e'⟩|⟨e,e'⟩|e<;>rw [e] at h0 h1 h2 h3 ⊢ <;> simp [hb,hx,hc,hd] at h0 h1 h2 h3
  .rcases e' with e'|e'<;>rw [e'] at h1<;>simp at h1
  .exact absurd h0.symm e'
  .exact ⟨rfl,hv _ h2 h3⟩
end
section
open Go.RowKit Go.ChangeShapes Go.WideShapes
structure MTok where
 kind:Int
 n:Int
 s:ByteArray
 at_:Int
def MTok.enc(x:MTok):List D:=[.s (.int .i64 x.kind),.s (.int .i64 x.n),.s (.string x.s),.s (.int .i64 x.at_)]
theorem MTok.enc_eq(x:MTok):x.enc=[.s (.int .i64 x.kind),.s (.int .i64 x.n),.s (.string x.s),.s (.int .i64 x.at_)]:=rfl
abbrev MTok.own(x:MTok):List D:=x.enc
theorem MTok.own_eq(x:MTok):x.own=[.s (.int .i64 x.kind),.s (.int .i64 x.n),.s (.string x.s),.s (.int .i64 x.at_)]:=rfl
theorem MTok.frz_eq(x:MTok):frzL x.own=x.enc:=by
 simp only [MTok.own_eq,MTok.enc_eq,frzL,frz]
theorem MTok.frzS(xs:List MTok):xU (xs.map MTok.own)=xs.map MTok.enc:=yh MTok.frz_eq xs
attribute [go_sem] MTok.frzS
end
end Go.Proofs.YtgcdbmcoendcdaaGreat
