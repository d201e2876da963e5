/- Parts of the proof. -/
import Derived.Test.YtgcdbmcoendcdaaGreatC5
set_option maxRecDepth 100000
set_option maxHeartbeats 8000000
set_option linter.unusedVariables false
set_option linter.unusedSimpArgs false
namespace Go.Proofs.YtgcdbmcoendcdaaGreat
section
open Arb
structure EI where
 kind:Int
 at_:Int
 n:Int
 s:ByteArray
 pats:List MPat
abbrev ET:=Arb EI
def EI.node(a:EI)(l:List Int):MNode:=⟨a.kind,a.at_,a.n,a.s,l,a.pats⟩
def MNode.inf(x:MNode):EI:=⟨x.kind,x.at_,x.n,x.s,x.pats⟩
theorem EI.node_inf(x:MNode):x.inf.node x.kids=x:=rfl
inductive EV(a:EI)(l:List ET):Prop where
 | int:a.kind=1->l=[]->0<=a.n->a.n<=4611686018427387903->a.s.toList=[]->EV a l
 | str:a.kind=2->l=[]->EV a l
 | var:a.kind=3->l=[]->yM a.s=true->EV a l
 | con0:a.kind=4->l=[]->yv a.s 0 false=true->EV a l
 | cons (b:EI) (x y:ET):a.kind=4->l=[.mk b [x,y]]->b.kind=11->a.s.toList=[58,58]->EV a l
 | con1 (x:ET):a.kind=4->l=[x]->conM a.s.data.toList=true->EV a l
 | func (x:ET):a.kind=5->l=[x]->yM a.s=true->EV a l
 | app (x y:ET):a.kind=6->l=[x,y]->a.s.toList=[]->EV a l
 | let_ (x y:ET):a.kind=7->l=[x,y]->yM a.s=true->EV a l
 | rec_ (b:EI) (x y:ET):a.kind=8->l=[.mk b [x],y]->b.kind=5->yM a.s=true->EV a l
 | if_ (x y z:ET):a.kind=9->l=[x,y,z]->a.s.toList=[]->EV a l
 | prim (x y:ET):a.kind=10->l=[x,y]->uF a.s=true->EV a l
 | pair (x y:ET):a.kind=11->l=[x,y]->a.s.toList=[]->EV a l
 | unit:a.kind=12->l=[]->a.s.toList=[]->EV a l
 | mat (x:ET) (r:List ET):a.kind=13->l=x::r->a.pats.length=r.length->1<=r.length->a.s.toList=[]->EV a l
 | raise (x:ET):a.kind=14->l=[x]->a.s.toList=[]->EV a l
 | try_ (x y:ET):a.kind=15->l=[x,y]->yM a.s=true->EV a l
 | ref (x:ET):a.kind=16->l=[x]->a.s.toList=[]->EV a l
 | get (x:ET):a.kind=17->l=[x]->a.s.toList=[]->EV a l
 | set (x y:ET):a.kind=18->l=[x,y]->a.s.toList=[]->EV a l
 | seq (x y:ET):a.kind=19->l=[x,y]->a.s.toList=[]->EV a l
structure okN(a:EI)(l:List ET):Prop where
 v:EV a l
 at0:0<=a.at_
 n0:a.kind=1\/a.n=0
 p0:a.kind=13\/a.pats=[]
 pm:∀ q∈a.pats,patM q.nodes=true
abbrev okT(t:ET):Prop:=All okN t
theorem two{α:Type}{l:List α}(h:l.length=2):∃ x y,l=[x,y]:=by
 match l,h with
 | [x,y],_=>exact ⟨x,y,rfl⟩
theorem one{α:Type}{l:List α}(h:l.length=1):∃ x,l=[x]:=by
 match l,h with
 | [x],_=>exact ⟨x,rfl⟩
theorem three{α:Type}{l:List α}(h:l.length=3):∃ x y z,l=[x,y,z]:=by
 match l,h with
 | [x,y,z],_=>exact ⟨x,y,z,rfl⟩
structure NP(nodes:List MNode)(a:EI)(k:List Int):Prop where
 at0:0<=a.at_
 ar:arI a.kind<0\/(k.length:Int)=arI a.kind
 p0:a.kind=13\/a.pats=[]
 n0:a.kind=1\/a.kind=3\/a.n=0
 kd:xV nodes (a.node k) (yg (a.node k))=true
 pm:∀ q∈a.pats,patM q.nodes=true
theorem nodeM_np(nodes:List MNode)(a:EI)(k:List Int):x9 nodes (a.node k)=true ↔ NP nodes a k/\inB nodes k=true:=by
 unfold x9 yw EI.node;simp only [Bool.and_eq_true,Bool.or_eq_true,decide_eq_true_eq,List.all_eq_true]
 constructor
 .rintro ⟨⟨h1,⟨⟨⟨h2,h3⟩,h4⟩,h5⟩,h6⟩,h7⟩
  exact ⟨⟨h2,h3,h4.imp_right fun h=>List.eq_nil_of_length_eq_zero h,h5.elim (fun h=>h.elim .inl fun h=>.inr (.inl h)) fun h=>.inr (.inr h),h6,h7⟩,h1⟩
 .rintro ⟨⟨h2,h3,h4,h5,h6,h7⟩,h1⟩
  exact ⟨⟨h1,⟨⟨⟨h2,h3⟩,h4.imp_right fun h=>by rw [h];rfl⟩,h5.elim (fun h=>.inl (.inl h)) fun h=>h.elim (fun h=>.inl (.inr h)) .inr⟩,h6⟩,h7⟩
theorem ue(s:ByteArray):s.toList.isEmpty=true ↔ s.toList=[]:=List.isEmpty_iff
theorem xaj{nodes:List MNode}{m:Nat}{b:EI}{l:List ET}{r:List ET}(h:At EI.node nodes m (.mk b l))(kd:Int):kidK nodes (idxs m (.mk b l::r)) kd=(b.kind==kd):=by
 obtain ⟨hm,he⟩:=List.getElem?_eq_some_iff.1 h.root;rw [YP (by simp [idxs]) hm (by simp [idxs]) kd,he];rfl
theorem shapeM_0{s:ByteArray}{p:Bool}(h:yv s 0 p=true):yv s 0 false=true:=by
 unfold yv at h ⊢
 split
 .rfl
 .rename_i h1
  rw [if_neg h1] at h
  split
  .rename_i h2;rw [if_pos h2] at h;simp at h
  .rename_i h2;rw [if_neg h2] at h;exact h
theorem view_of{nodes:List MNode}(hn:nodes.all (x9 nodes)=true){m:Nat}{a:EI}{l:List ET}(h:At EI.node nodes m (.mk a l)):okN a l:=by
 have np:∀ {m:Nat} {a:EI} {l:List ET},At EI.node nodes m (.mk a l)->NP nodes a (idxs (m+1) l):=fun h=>by
  rw [List.all_eq_true] at hn
  exact ((nodeM_np _ _ _).1 (hn _ (List.mem_of_getElem? h.root))).1
 have N:=np h;have hk:=h.kids;obtain ⟨at0,ar,p0,n0,kd,pm⟩:=N;rw [idxs_len] at ar
 have hv:EV a l/\(a.kind=3->a.n=0):=by
  by_cases hkd:a.kind<1\/19<a.kind
  .exfalso
   unfold xV EI.node at kd
   simp only at kd
   have e:∀ z:Int,1<=z->z<=19->¬ a.kind=z:=fun z h1 h2 q=>by omega
   simp only [e 1 (by omega) (by omega),e 2 (by omega) (by omega),e 3 (by omega) (by omega),e 4 (by omega) (by omega),e 5 (by omega) (by omega),e 7 (by omega) (by omega),e 8 (by omega) (by omega),e 10 (by omega) (by omega),e 13 (by omega) (by omega),e 15 (by omega) (by omega),if_false,false_or,or_self,Bool.and_eq_true,decide_eq_true_eq] at kd
   omega
  .have len:∀ z:Int,arI a.kind=z->0<=z->(l.length:Int)=z:=fun z h1 h2=>by
    rcases ar with q|q<;>omega
   unfold xV EI.node yg at kd
   rcases (show a.kind=1\/a.kind=2\/a.kind=3\/a.kind=4\/a.kind=5\/a.kind=6\/a.kind=7\/a.kind=8\/a.kind=9\/a.kind=10\/a.kind=11\/a.kind=12\/a.kind=13\/a.kind=14\/a.kind=15\/a.kind=16\/a.kind=17\/a.kind=18\/a.kind=19 by omega) with k|k|k|k|k|k|k|k|k|k|k|k|k|k|k|k|k|k|k
   all_goals
    rw [k] at len
    simp only [k,Int.reduceEq,or_false,false_or,or_true,true_or,if_true,if_false,Bool.and_eq_true,decide_eq_true_eq,ue,reduceIte,false_imp_iff,and_true,true_imp_iff] at kd ⊢
   .exact .int k (List.eq_nil_of_length_eq_zero (by have:=len 0 rfl (by omega);omega)) kd.1.1 kd.1.2 kd.2
   .exact .str k (List.eq_nil_of_length_eq_zero (by have:=len 0 rfl (by omega);omega))
   .exact ⟨.var k (List.eq_nil_of_length_eq_zero (by have:=len 0 rfl (by omega);omega)) kd.1,kd.2⟩
   .rw [idxs_len] at kd
    match l,hk,kd with
    | [],_,kd=>exact .con0 k rfl (shapeM_0 kd)
    | [.mk b r],hk,kd=>
     rw [show decide (([Arb.mk b r]:List ET).length=1)=true from rfl,Bool.true_and,xaj hk.head] at kd
     unfold yv at kd
     split at kd
     .simp at kd
     .split at kd
      .rename_i hs
       simp only [List.length_singleton,Bool.and_eq_true,beq_iff_eq] at kd hs
       have N2:=np hk.head;obtain ⟨x,y,rfl⟩:∃ x y,r=[x,y]:=two (by
        rcases N2.ar with q|q
        .rw [kd.2] at q;exact absurd q (by decide)
        .rw [kd.2,idxs_len] at q;simp [arI] at q;(try omega))
       exact .cons b x y k rfl kd.2 hs
      .simp only [Bool.and_eq_true] at kd
       exact .con1 _ k rfl kd.1
    | x::y::r,hk,kd=>
     exfalso
     unfold yv at kd
     simp only [List.length_cons] at kd
     split at kd
     .simp at kd;(try omega)
     .split at kd
      .simp at kd;(try omega)
      .simp at kd;(try omega)
   .obtain ⟨x,rfl⟩:=one (l:=l) (by have:=len 1 rfl (by omega);omega)
    exact .func x k rfl kd.1
   .obtain ⟨x,y,rfl⟩:=two (l:=l) (by have:=len 2 rfl (by omega);omega)
    exact .app x y k rfl (by simpa [ue] using kd)
   .obtain ⟨x,y,rfl⟩:=two (l:=l) (by have:=len 2 rfl (by omega);omega)
    exact .let_ x y k rfl kd.1
   .obtain ⟨x,y,rfl⟩:=two (l:=l) (by have:=len 2 rfl (by omega);omega)
    obtain ⟨b,r⟩:=x;rw [xaj hk.head] at kd
    have hb:b.kind=5:=by simpa using kd.2
    have N2:=np hk.head;obtain ⟨x,rfl⟩:∃ x,r=[x]:=one (by
     rcases N2.ar with q|q
     .rw [hb] at q;exact absurd q (by decide)
     .rw [hb,idxs_len] at q;simp [arI] at q;(try omega))
    exact .rec_ b x y k rfl hb kd.1.1
   .obtain ⟨x,y,z,rfl⟩:=three (l:=l) (by have:=len 3 rfl (by omega);omega)
    exact .if_ x y z k rfl (by simpa [ue] using kd)
   .obtain ⟨x,y,rfl⟩:=two (l:=l) (by have:=len 2 rfl (by omega);omega)
    exact .prim x y k rfl kd
   .obtain ⟨x,y,rfl⟩:=two (l:=l) (by have:=len 2 rfl (by omega);omega)
    exact .pair x y k rfl (by simpa [ue] using kd)
   .exact .unit k (List.eq_nil_of_length_eq_zero (by have:=len 0 rfl (by omega);omega)) (by simpa [ue] using kd)
   .rw [idxs_len] at kd
    match l,kd with
    | [],kd=>exact absurd kd.2 (by simp)
    | x::r,kd=>
     have h2:=kd.2;rw [List.length_cons] at h2
     exact .mat x r k rfl (by omega) (by have:=kd.1.2;omega) kd.1.1
   .obtain ⟨x,rfl⟩:=one (l:=l) (by have:=len 1 rfl (by omega);omega)
    exact .raise x k rfl (by simpa [ue] using kd)
   .obtain ⟨x,y,rfl⟩:=two (l:=l) (by have:=len 2 rfl (by omega);omega)
    exact .try_ x y k rfl kd.1
   .obtain ⟨x,rfl⟩:=one (l:=l) (by have:=len 1 rfl (by omega);omega)
    exact .ref x k rfl (by simpa [ue] using kd)
   .obtain ⟨x,rfl⟩:=one (l:=l) (by have:=len 1 rfl (by omega);omega)
    exact .get x k rfl (by simpa [ue] using kd)
   .obtain ⟨x,y,rfl⟩:=two (l:=l) (by have:=len 2 rfl (by omega);omega)
    exact .set x y k rfl (by simpa [ue] using kd)
   .obtain ⟨x,y,rfl⟩:=two (l:=l) (by have:=len 2 rfl (by omega);omega)
    exact .seq x y k rfl (by simpa [ue] using kd)
 refine ⟨hv.1,at0,?_,p0,pm⟩;rcases n0 with q|q|q
 .exact .inl q
 .exact .inr (hv.2 q)
 .exact .inr q
theorem tree_of{p:MProgram}(h:wI p=true):∃ t:ET,p.nodes=Arb.lay EI.node 0 t/\okT t/\t.size<=600/\p.types.length<=8/\p.types.all wb=true:=by
 unfold wI at h
 simp only [Bool.and_eq_true,decide_eq_true_eq] at h
 obtain ⟨⟨⟨⟨⟨h1,h2⟩,h3⟩,h4⟩,h5⟩,h6⟩:=h;obtain ⟨t,ht⟩:=grow_all (f:=EI.node) (ks:=fun n:MNode=>n.kids) (inf:=MNode.inf) EI.node_inf h6
 refine ⟨t,ht,?_,?_,h3,h4⟩
 .have:=At.zero (f:=EI.node) t
  rw [<- ht] at this
  exact all_of t 0 this fun j x l hj=>view_of h5 hj
 .have:=congrArg List.length ht
  rw [Arb.lay_len] at this
  omega
theorem kind_of{a:EI}{l:List ET}(h:okN a l):1<=a.kind/\a.kind<=19:=by
 obtain ⟨v,-⟩:=h;cases v<;>omega
end
section
open Go.RowKit
theorem WT{P:Program}(w:World)(t e:TypeId)(a:Option Addr)(l c:Nat)(h:P.underlying t=some (.slice e)):(binOp .eql t (.slice a l c) (.slice none 0 0)).run P w=.ok (.bool a.isNone) w:=by
 simp [binOp,run_equal_slice_nil w t e a l c h]
def Vn(E:TypeId)(w:World)(e:Ending)(w':World):Prop:=(e=.returned (.slice none 0 0)/\w'=w)\/(e=.returned (.slice (some ⟨w.heap.size,0,none⟩) 0 0)/\w'=w.alloc (.cells #[] E))
theorem FCon.cl0 {P:Program} {f:FuncId} {fn:Func} {c:Code} (hf:P.funcs[f]?=some fn) (hname:(fn.name == "runtime.NumGoroutine")=false) (hb:fn.body=some c) {E k:Nat}
  (h:∀ (w:World) (a:Option Addr) (c:Nat),Calls P f #[.slice a 0 c] w (fun e w'=>Vn E w e w')):FCon P f [.sl k []] (fun r _=>r=.osl E k []):=by
 refine ⟨fun vs w=>?_,fun w g vs hS hu hl' hv=>?_⟩
 .have hname':¬ fn.name = "runtime.NumGoroutine" := by simpa using hname
  have hbn:¬ fn.body=none:=by rw [hb];simp
  simp [callFunc,hf,hname',hbn]
 .obtain ⟨v,rfl,hv2⟩:=Xf (P:=fun j d u=>RA g w j d u) hl' hv
  have hv3:Rep g.S g.up w (some (.par 0 0)) (.sl k []) v:=hv2;obtain ⟨a,c,rfl⟩:∃ a c,v=.slice a 0 c:=by
   clear hv hv2;cases hv3 with
   | sl0 _=>exact ⟨_,_,rfl⟩
   | sl us h1 h2 h3 h4 h5=>exact ⟨_,_,rfl⟩
  refine (h w a c).mono ?_
  rintro e w' (⟨rfl,rfl⟩|⟨rfl,rfl⟩)
  .exact ⟨_,⟨fun _=>none,fun _=>0,fun _=>none,g.S⟩,_,[],rfl,Below.refl _ _,fun _ _ _=>rfl,fun _ q=>q,fun _ _ q=>.inl q,hS,fun b p q=>(by cases q),rfl,(Rep.osl0:Rep _ _ _ (some (.ans 0 0)) (.osl E k []) _),fun j d u q=>(by simp at q)⟩
  .have hz:∀ b,b<w.heap.size->(w.alloc (.cells #[] E)).heap[b]?=w.heap[b]?:=fun b hb=>by
    show (w.heap.push _)[b]?=_;rw [Array.getElem?_push_lt hb,Array.getElem?_eq_getElem hb]
   have hn:(w.alloc (.cells #[] E)).heap[w.heap.size]?=some (.cells #[] E (0,0)):=by
    exact Array.getElem?_push_size
   have hs:(w.alloc (.cells #[] E)).heap.size=w.heap.size+1:=Array.size_push ..;refine ⟨_,⟨fun _=>none,fun _=>0,fun b=>if b=w.heap.size then some (.ans 0 0) else none,g.S⟩,_,[],rfl,(Below.refl 0 w).alloc (Nat.zero_le _) _,fun b hb _=>hz b hb,fun _ q=>q,fun _ _ q=>.inl q,fun b q=>by have:=hS b q;omega,fun b p q=>?_,rfl,?_,fun j d u q=>(by simp at q)⟩
   .simp only at q
    split at q
    .rename_i e;subst e
     exact ⟨by omega,fun q=>by omega,fun q=>by have:=hS _ q;omega⟩
    .cases q
   .show Rep g.S _ _ (some (.ans 0 0)) (.osl E k []) _
    exact Rep.osl (b:=w.heap.size) (c:=0) #[] (if_pos rfl) hn (Nat.le_refl _) (by decide) (by simp) (fun i row q=>by simp at q) (fun i j row d q=>by simp at q)
theorem FCon.cl0I{P:Program}{f:FuncId}{E k:Nat}{rows:List (List D)}(h0:rows=[]->FCon P f [.sl k []] (fun r _=>r=.osl E k []))(h1:rows.isEmpty=false->FCon P f [.sl k rows] (fun r _=>r=.osl E k rows)):FCon P f [.sl k rows] (fun r _=>r=.osl E k rows):=by
 cases rows with
 | nil=>exact h0 rfl
 | cons r l=>exact h1 rfl
theorem xbx(w:World)(a:Option Addr)(c:Nat):Calls Tryz.prog 221 #[.slice a 0 c] w fun e w'=>Vn 3 w e w':=by
 have hnil:=WT (P:=Tryz.prog) w 53 3 a 0 c Tryz.underlying53;cases a with
 | none=>
  go_enter Tryz.func221,Tryz.ntmps221
  go_wp2
  go_ret
  exact .inl ⟨rfl,rfl⟩
 | some ad=>
  go_enter Tryz.func221,Tryz.ntmps221
  go_wp2
  go_ret
  exact .inr ⟨rfl,rfl⟩
theorem QW(rows:List (List D))(hk:∀ r∈rows,r.length=1)(hl:rows.length<=1000000000):FT 221 [.sl 1 rows] (fun r _=>r=.osl 3 1 rows):=by
 refine FCon.cl0I (fun _=>FCon.cl0 Tryz.func221 rfl rfl xbx) fun he=>?_
 refine FI PM Tryz.func221 Tryz.ntmps221 [] rfl rfl ?_
 (have hWf:=w1 @he;repeat' (first|refine zS ?_|refine zI ?_ ?_|exact zF0|refine zD fun hb=>?_|exact zC|refine zT ?_|fail))
 all_goals first|exact ⟨_,rfl⟩|skip
theorem xaU(xs:List Int)(hl:xs.length<=1000000000):FT 221 [.sl 1 (xs.map iE)] (fun r _=>r=.osl 3 1 (xs.map iE)):=QW (xs.map iE) (fun r hr=>by obtain ⟨y,_,rfl⟩:=List.mem_map.1 hr;rfl) (by simpa using hl)
theorem Q3(w:World)(a:Option Addr)(c:Nat):Calls Tryz.prog 220 #[.slice a 0 c] w fun e w'=>Vn 126 w e w':=by
 have hnil:=WT (P:=Tryz.prog) w 87 126 a 0 c Tryz.underlying87;cases a with
 | none=>
  go_enter Tryz.func220,Tryz.ntmps220
  go_wp2
  go_ret
  exact .inl ⟨rfl,rfl⟩
 | some ad=>
  go_enter Tryz.func220,Tryz.ntmps220
  go_wp2
  go_ret
  exact .inr ⟨rfl,rfl⟩
theorem Vj(rows:List (List D))(hk:∀ r∈rows,r.length=4)(hl:rows.length<=1000000000):FT 220 [.sl 4 rows] (fun r _=>r=.osl 126 4 rows):=by
 refine FCon.cl0I (fun _=>FCon.cl0 Tryz.func220 rfl rfl Q3) fun he=>?_
 refine FI PM Tryz.func220 Tryz.ntmps220 [] rfl rfl ?_
 (have hWf:=w1 @he;repeat' (first|refine zS ?_|refine zI ?_ ?_|exact zF0|refine zD fun hb=>?_|exact zC|refine zT ?_|fail))
 all_goals first|exact ⟨_,rfl⟩|skip
theorem Zs(xs:List DPNode)(hl:xs.length<=1000000000):FT 220 [.sl 4 (xs.map DPNode.enc)] (fun r _=>r=.osl 126 4 (xs.map DPNode.enc)):=Vj (xs.map DPNode.enc) (fun r hr=>by obtain ⟨y,_,rfl⟩:=List.mem_map.1 hr;rfl) (by simpa using hl)
def mixR{α:Type}(f g:α->List D)(l:List α)(k:Nat):List (List D):=(l.take k).map f++(l.drop k).map g
section
variable {α:Type} {f g:α->List D} {l:List α} {k:Nat}
theorem mixR_zero:mixR f g l 0=l.map g:=rfl
theorem mixR_all:mixR f g l l.length=l.map f:=by unfold mixR;rw [List.take_length,List.drop_length];simp
theorem mixR_len:(mixR f g l k).length=l.length:=by unfold mixR;rw [List.length_append,List.length_map,List.length_map,List.length_take,List.length_drop];simp only [Nat.min_def];split<;>omega
theorem mixR_get(h:k<l.length):(mixR f g l k).getD k []=g l[k]:=by
 unfold mixR;have:((l.take k).map f).length=k:=by rw [List.length_map,List.length_take];omega
 rw [List.getD_eq_getElem?_getD,List.getElem?_append_right (by omega),this,Nat.sub_self,List.getElem?_map,List.getElem?_drop,Nat.add_zero,List.getElem?_eq_getElem h];rfl
theorem mixR_set(h:k<l.length):(mixR f g l k).set k (f l[k])=mixR f g l (k+1):=by
 unfold mixR;have e:((l.take k).map f).length=k:=by rw [List.length_map,List.length_take];omega
 rw [List.set_append_right _ _ (by omega),e,Nat.sub_self,List.drop_eq_getElem_cons h,List.map_cons,List.set_cons_zero,List.take_succ_eq_append_getElem h,List.map_append]
 simp
end
theorem VS(xs:List DPNode)(hl:xs.length<=1000000)(hk:∀ x∈xs,x.kids.length<=1000000):FT 162 [.ag [.sl 4 (xs.map DPNode.enc)]] (fun r _=>r=.ag [.osl 126 4 (xs.map DPNode.own)]):=by
 refine FI PM Tryz.func162 Tryz.ntmps162 [(5,6,[5],[(5,0),(5,1),(5,2)],(lin [5] [0,1,2,3,4,5]))] rfl rfl ?_
 (have hWf:=f0;repeat' (first|refine zS ?_|refine zI ?_ ?_|((with_reducible apply xc);refine zG (Zs xs (by omega)) ?_)|refine zU (Zs xs (by omega)) ?_|exact zF0|refine zD fun hb=>?_|exact zC|refine zT ?_|fail))
 refine xn (fun n σ=>∃ k:Nat,k<=xs.length/\n=xs.length - k/\σ.t 2=.bx 2 0/\σ.b 2=some (.box [.nil])/\σ.t 3=.bx 3 0/\σ.b 3=some (.box [.bs 1008 4 xs.length])/\σ.t 11=.bs 1008 4 xs.length/\σ.b 1008=some (.arr 126 4 (mixR DPNode.own DPNode.enc xs k))/\σ.t 12=.s (.int .i64 xs.length)/\σ.t 13=.s (.int .i64 k)) xs.length ⟨0,by omega,by omega,?_⟩ ?_
 .simp only [go_sem,simprocAttr,Int.natCast_zero,mixR_zero]
 .rintro n σ ⟨k,hk2,rfl,h2,b2,h3,b3,h11,b1,h12,h13⟩ K' hK
  have hml:=mixR_len (f:=DPNode.own) (g:=DPNode.enc) (l:=xs) (k:=k)
  by_cases hlt:k<xs.length
  .have hx:=mixR_get (f:=DPNode.own) (g:=DPNode.enc) hlt
   have he:=DPNode.enc_eq xs[k];have hst:=mixR_set (f:=DPNode.own) (g:=DPNode.enc) hlt;rw [DPNode.own_eq] at hst
   have hcl:=xaU xs[k].kids (by have:=hk _ (List.getElem_mem hlt);omega)
   (have hWf:=w10 @h2 @b2 @h3 @b3 @h11 @b1 @h12 @h13 @hx (ai @he<|ai @hml<|@hst);repeat' (first|refine zS ?_|refine zI ?_ ?_|refine zX (FCon.noout hcl) ?_|((with_reducible apply xc);refine zG (hcl) ?_)|exact zF0|refine zD fun hb=>?_|exact zC|refine zT ?_|fail))
   refine hK (xs.length - (k+1)) _ (by omega) ⟨k+1,by omega,rfl,?_⟩
   simp only [go_sem,simprocAttr,h2,b2,h3,b3,h11,b1,h12,h13,Int.natCast_succ,hst]
  .obtain rfl:k=xs.length:=by omega
   rw [mixR_all] at b1
   (have hWf:=w8 @h2 @b2 @h3 @b3 @h11 @b1 @h12 @h13;repeat' (first|refine zS ?_|refine zI ?_ ?_|exact zF0|refine zD fun hb=>?_|exact zC|refine zT ?_|fail))
theorem UM(qs:List MPat)(hl:qs.length<=1000000)(hk:∀ q∈qs,q.nodes.length<=1000000/\∀ x∈q.nodes,x.kids.length<=1000000):FT 79 [.sl 1 (qs.map MPat.enc)] (fun r _=>r=.osl 89 1 (qs.map MPat.own)):=by
 refine FI PM Tryz.func79 Tryz.ntmps79 [] rfl rfl ?_
 (have hWf:=f0;repeat' (first|refine zS ?_|refine zI ?_ ?_|exact zF0|refine zD fun hb=>?_|exact zC|refine zT ?_|fail))
 refine xn (fun n σ=>∃ k:Nat,k<=qs.length/\n=qs.length - k/\σ.t 3=.bs 6 1 k/\σ.b 6=some (.arr 89 1 ((qs.take k).map MPat.own))/\σ.t 7=.sl 1 (qs.map MPat.enc)/\σ.t 8=.s (.int .i64 qs.length)/\σ.t 9=.s (.int .i64 k)) qs.length ⟨0,by omega,by omega,?_⟩ ?_
 .simp only [go_sem,simprocAttr,Int.natCast_zero,List.take_zero]
 .rintro n σ ⟨k,hk2,rfl,h3,b6,h7,h8,h9⟩ K' hK
  by_cases hlt:k<qs.length
  .have hx:=xi MPat.enc qs k hlt
   have he:=MPat.enc_eq qs[k];have ho:=MPat.own_eq qs[k];have htl:(qs.take k).length=k:=by rw [List.length_take];omega
   have hts:=List.take_succ_eq_append_getElem hlt;have hkk:=hk _ (List.getElem_mem hlt)
   (have hWf:=w8 @h3 @b6 @h7 @h8 @h9 @hx @he @htl;repeat' (first|refine zS ?_|refine zI ?_ ?_|refine zK (VS qs[k].nodes hkk.1 hkk.2) ?_|exact zF0|refine zD fun hb=>?_|exact zC|refine zT ?_|fail))
   refine hK (qs.length - (k+1)) _ (by omega) ⟨k+1,by omega,rfl,?_⟩
   simp only [go_sem,simprocAttr,h3,b6,h7,h8,h9,Int.natCast_succ,hts,List.map_append,ho]
  .obtain rfl:k=qs.length:=by omega
   rw [List.take_length] at b6
   (have hWf:=w5 @h3 @b6 @h7 @h8 @h9;repeat' (first|refine zS ?_|refine zI ?_ ?_|exact zF0|refine zD fun hb=>?_|exact zC|refine zT ?_|fail))
end
section
open Go.RowKit Arb
mutual
def exO:ET->D
 | .mk a l=>.opt [.s (.int .i64 a.kind),.s (.int .i64 a.at_),.s (.int .i64 a.n),.s (.string a.s),.osl 72 1 (exOL l),.osl 89 1 (a.pats.map MPat.own)]
def exOL:List ET->List (List D)
 | []=>[]
 | t::l=>[exO t]::exOL l
end
mutual
def exE:ET->D
 | .mk a l=>.pt [.s (.int .i64 a.kind),.s (.int .i64 a.at_),.s (.int .i64 a.n),.s (.string a.s),.sl 1 (exEL l),.sl 1 (a.pats.map MPat.enc)]
def exEL:List ET->List (List D)
 | []=>[]
 | t::l=>[exE t]::exEL l
end
def exR(t:ET):List D:=[exO t]
def exS(t:ET):List D:=[exE t]
theorem exOL_map(l:List ET):exOL l=l.map exR:=by
 induction l with
 | nil=>rfl
 | cons t l ih=>rw [exOL,ih];rfl
theorem exEL_map(l:List ET):exEL l=l.map exS:=by
 induction l with
 | nil=>rfl
 | cons t l ih=>rw [exEL,ih];rfl
theorem UZ(a:EI)(l:List ET):exO (.mk a l)=.opt [.s (.int .i64 a.kind),.s (.int .i64 a.at_),.s (.int .i64 a.n),.s (.string a.s),.osl 72 1 (l.map exR),.osl 89 1 (a.pats.map MPat.own)]:=by rw [exO,exOL_map]
theorem xW(a:EI)(l:List ET):exE (.mk a l)=.pt [.s (.int .i64 a.kind),.s (.int .i64 a.at_),.s (.int .i64 a.n),.s (.string a.s),.sl 1 (l.map exS),.sl 1 (a.pats.map MPat.enc)]:=by rw [exE,exEL_map]
theorem ex_frz:∀ t:ET,frz (exO t)=exE t:=fun t=>by
 induction t using Arb.ind with
 | h a l ih=>
  rw [UZ,xW];have:xU (l.map exR)=l.map exS:=by
   rw [za,List.map_map];refine List.map_congr_left fun x hx=>?_
   show frzL (exR x)=exS x;simp only [exR,exS,frzL,ih x hx]
  simp only [frz,frzL,this,MPat.frzS]
def patsB(qs:List MPat):Prop:=qs.length<=1000000/\∀ q∈qs,q.nodes.length<=1000000/\∀ x∈q.nodes,x.kids.length<=1000000
theorem c_grow(nodes:List MNode)(hl:nodes.length<=1000000):∀ (t:ET) (m:Nat),At EI.node nodes m t->All (fun a _=>patsB a.pats) t->FT 31 [.sl 6 (nodes.map MNode.enc),.s (.int .i64 m)] (fun r _=>r=exO t):=fun t=>by
 induction t using Arb.ind with
 | h a l ih=>
  intro m hA hp;obtain ⟨hm,hr⟩:=List.getElem?_eq_some_iff.1 hA.root;have hx:=xi MNode.enc nodes m hm;have he:(a.node (idxs (m+1) l)).enc=[.s (.int .i64 a.kind),.s (.int .i64 a.at_),.s (.int .i64 a.n),.s (.string a.s),.sl 1 ((idxs (m+1) l).map iE),.sl 1 (a.pats.map MPat.enc)]:=rfl;rw [hr] at hx
  have hpp:=hp.root;have hil:=idxs_len (m+1) l;have hll:l.length<=1000000:=by
   have h1:=hA.bd;have h2:=sizeL_len l;rw [size_mk] at h1
   omega
  rw [UZ];refine FI PM Tryz.func31 Tryz.ntmps31 [(2,11,[10],[(10,0),(10,1),(10,2),(10,3),(10,4),(10,5),(10,6),(10,7)],(lin [10] [0,1,2,3,4,5,6,7,8,9,10])),(6,10,[7,8,9],[(7,0),(7,1),(7,2),(7,3),(7,4),(8,0),(8,1),(8,2),(8,3),(8,4),(9,0)],(lin [7,8,9] [0,1,2,3,4,5,6,7,8,9]))] rfl rfl ?_
  (have hWf:=w3 @hx @he @hil;repeat' (first|refine zS ?_|refine zI ?_ ?_|refine zX (FCon.noout (UM a.pats hpp.1 hpp.2)) ?_|((with_reducible apply xc);refine zG (UM a.pats hpp.1 hpp.2) ?_)|exact zF0|refine zD fun hb=>?_|exact zC|refine zT ?_|fail))
  refine Zx (zJ 25 4 777 (row:=[.s (.int .i64 a.kind),.s (.int .i64 a.at_),.s (.int .i64 a.n),.s (.string a.s),.nil,.bs 1023 1 a.pats.length]) 72 1 (by simp only [go_sem,simprocAttr]) rfl (by decide) rfl (xE ?_))
  simp only [go_sem,simprocAttr];refine xn (fun n σ=>∃ k:Nat,k<=l.length/\n=l.length - k/\σ.t 0=.sl 6 (nodes.map MNode.enc)/\σ.t 6=.bx 25 0/\σ.t 27=.sl 1 ((idxs (m+1) l).map iE)/\σ.t 28=.s (.int .i64 l.length)/\σ.t 29=.s (.int .i64 k) /\
   σ.b 25=some (.box [.s (.int .i64 a.kind),.s (.int .i64 a.at_),.s (.int .i64 a.n),.s (.string a.s),.bs 777 1 k,.bs 1023 1 a.pats.length])/\σ.b 777=some (.arr 72 1 ((l.take k).map exR))/\σ.b 1023=some (.arr 89 1 (a.pats.map MPat.own))) l.length ⟨0,by omega,by omega,?_⟩ ?_
  .simp only [go_sem,simprocAttr,Int.natCast_zero,List.take_zero]
  .rintro n σ ⟨k,hk,rfl,h0,h6,h27,h28,h29,b25,b7,b1⟩ K' hK
   by_cases hlt:k<l.length
   .have hlt2:k<(idxs (m+1) l).length:=by rw [hil];exact hlt
    have hx2:=xi iE (idxs (m+1) l) k hlt2;have he2:iE (idxs (m+1) l)[k]=[.s (.int .i64 ((m+1+sizeL (l.take k):Nat):Int))]:=by rw [idxs_at (m+1) l k hlt];rfl
    have hg:=ih l[k] (List.getElem_mem hlt) _ (hA.kids.at k hlt) (hp.kid _ (List.getElem_mem hlt))
    obtain ⟨b,r,hbr⟩:∃ b r,l[k]=.mk b r:=⟨_,_,Arb.eta _⟩;have hex:exR l[k]=[exO l[k]]:=rfl;rw [hbr,UZ] at hg hex
    have htl:(l.take k).length=k:=by rw [List.length_take];omega
    have hts:=List.take_succ_eq_append_getElem hlt
    (have hWf:=w10 @h0 @h6 @h27 @h28 @h29 @b25 @b7 @b1 @hx2 (ai @he2<|ai @hil<|@htl);repeat' (first|refine zS ?_|refine zI ?_ ?_|refine zX (FCon.noout hg) ?_|((with_reducible apply xc);refine zG (hg) ?_)|exact zF0|refine zD fun hb=>?_|exact zC|refine zT ?_|fail))
    refine hK (l.length - (k+1)) _ (by omega) ⟨k+1,by omega,rfl,?_⟩
    simp only [go_sem,simprocAttr,h0,h6,h27,h28,h29,b25,b7,b1,Int.natCast_succ,hts,List.map_append,hbr,hex]
   .obtain rfl:k=l.length:=by omega
    rw [List.take_length] at b7
    (have hWf:=w8 @h0 @h6 @h27 @h28 @h29 @b25 @b7 @b1;repeat' (first|refine zS ?_|refine zI ?_ ?_|exact zF0|refine zD fun hb=>?_|exact zC|refine zT ?_|fail))
end
section
open Arb
def nS:ByteArray:=⟨#[]⟩
structure PS where
 i:Nat
 code:Int
 at_:Int
 vars:List Int
 seen:List ByteArray
def sgT(t:MTok):ByteArray:=if t.kind=6 then t.s else nS
def isT(t:MTok)(x:ByteArray):Bool:=(sgT t).toList==x.toList
def inT(t:MTok)(l:List ByteArray):Bool:=l.any fun x=>isT t x
def begT(t:MTok):Bool:=decide (t.kind=1\/t.kind=2\/t.kind=3\/t.kind=4)||isT t ⟨#[40]⟩||isT t ⟨#[91]⟩||isT t ⟨#[116,114,117,101]⟩||isT t ⟨#[102,97,108,115,101]⟩
def uU(t:MTok):Bool:=decide (t.kind=3\/t.kind=1\/t.kind=4)||inT t [⟨#[95]⟩,⟨#[45]⟩,⟨#[40]⟩,⟨#[91]⟩,⟨#[116,114,117,101]⟩,⟨#[102,97,108,115,101]⟩]
def Ws(t:MTok):Bool:=begT t||inT t [⟨#[102,117,110]⟩,⟨#[108,101,116]⟩,⟨#[105,102]⟩,⟨#[109,97,116,99,104]⟩,⟨#[116,114,121]⟩,⟨#[114,97,105,115,101]⟩,⟨#[114,101,102]⟩,⟨#[33]⟩,⟨#[45]⟩]
def tywT(t:MTok):Bool:=decide (t.kind=3)||isT t ⟨#[114,101,102]⟩
def E0:ET:=.mk ⟨0,0,0,nS,[]⟩ []
def eN(k at_:Int)(s:ByteArray)(l:List ET):ET:=.mk ⟨k,at_,0,s,[]⟩ l
def P0:PT:=.mk ⟨0,0,nS⟩ []
def pN(k n:Int)(s:ByteArray)(l:List PT):PT:=.mk ⟨k,n,s⟩ l
def consT(at_:Int)(a b:ET):ET:=eN 4 at_ ⟨#[58,58]⟩ [eN 11 at_ nS [a,b]]
section
variable (T:List MTok) (e:Int)
def tokS(s:PS):MTok:=if s.code=0/\s.i<T.length then T.getD s.i ⟨0,0,nS,0⟩ else ⟨0,0,nS,e⟩
def isS(s:PS)(x:ByteArray):Bool:=isT (tokS T e s) x
def advS(s:PS):PS:=⟨s.i+1,s.code,s.at_,s.vars,s.seen⟩
def xG(s:PS)(c:Int):PS:=if s.code=0 then ⟨s.i,c,if s.i<T.length then (T.getD s.i ⟨0,0,nS,0⟩).at_ else e,s.vars,s.seen⟩ else s
def xf(s:PS)(x:ByteArray):PS:=if isS T e s x=true then advS s else xG T e s 7
def xt(s:PS)(k:Int):ByteArray×PS:=if (tokS T e s).kind=k then ((tokS T e s).s,advS s) else (nS,xG T e s 7)
def wl(s:PS)(b:Bool):PS:=if b=true then xG T e s 9 else xG T e s 7
def ty1(name:ByteArray)(l:List (List TyI)):List TyI:=⟨0,name,l.length⟩::l.flatten
def YW(s:PS):Bool:=(decide ((tokS T e s).kind=5)&&s.vars.contains (tokS T e s).n)||decide ((tokS T e s).kind=3)||isS T e s ⟨#[40]⟩
def ww(v:Int):List Int->Nat->Nat->Nat
 | [],_,r=>r
 | x::l,k,r=>ww v l (k+1) (if x=v then k else r)
section
variable (R:PS->List TyI×PS)
def yr(s:PS):List TyI×PS:=
 if (tokS T e s).kind=5 then (if s.vars.contains (tokS T e s).n=true then ([⟨(ww (tokS T e s).n s.vars 0 0:Nat),nS,0⟩],advS s) else ([],xG T e s 7))
 else if (tokS T e s).kind=3 then (ty1 (tokS T e s).s [],advS s)
 else match R (xf T e s ⟨#[40]⟩) with
  | (a,s1)=>if isS T e s1 ⟨#[44]⟩=true then (match R (advS s1) with
    | (b,s2)=>match xt T e (xf T e s2 ⟨#[41]⟩) 3 with
     | (nm,s3)=>(ty1 nm [a,b],s3))
   else (a,xf T e s1 ⟨#[41]⟩)
def yS:Nat->List TyI->PS->List TyI×PS
 | 0,a,s=>(a,s)
 | n+1,a,s=>if s.code=0/\tywT (tokS T e s)=true then yS n (ty1 (tokS T e s).s [a]) (advS s) else (a,s)
def y7:Nat->PS->List TyI×PS
 | 0,s=>([],s)
 | n+1,s=>match yr T e R s with
  | (a0,s0)=>match yS T e (T.length+1) a0 s0 with
   | (a,s1)=>if isS T e s1 ⟨#[42]⟩=true then (match y7 n (advS s1) with
     | (b,s2)=>(ty1 ⟨#[42]⟩ [a,b],s2)) else (a,s1)
def wB(s:PS):List TyI×PS:=
 if s.code=0 then (match y7 T e R (T.length+1) s with
  | (a,s1)=>if isS T e s1 ⟨#[45,62]⟩=true then (match R (advS s1) with
    | (b,s2)=>(ty1 ⟨#[45,62]⟩ [a,b],s2)) else (a,s1))
 else ([],s)
end
def tyF:Nat->PS->List TyI×PS
 | 0,s=>if s.code=0 then ([],wl T e s (YW T e s)) else ([],s)
 | k+1,s=>wB T e (tyF k) s
def yj(s0:PS):MType×PS:=
 let s:PS:=⟨s0.i,s0.code,s0.at_,[],s0.seen⟩
 if isS T e s ⟨#[40]⟩=true then
  (let s1:=advS s
   let a:=tokS T e s1
   let s2:=(xt T e s1 5).2
   let s3:=xf T e s2 ⟨#[44]⟩
   let b:=tokS T e s3
   let s4:=if b.kind=5/\b.n=a.n then xG T e s3 7 else s3
   let s5:=(xt T e s4 5).2
   let s6:=xf T e s5 ⟨#[41]⟩
   let s7:PS:=⟨s6.i,s6.code,s6.at_,[a.n,b.n],s6.seen⟩
   (⟨(xt T e s7 3).1,2,[]⟩,(xt T e s7 3).2))
 else if (tokS T e s).kind=5 then
  (let s1:PS:=⟨s.i+1,s.code,s.at_,[(tokS T e s).n],s.seen⟩
   (⟨(xt T e s1 3).1,1,[]⟩,(xt T e s1 3).2))
 else (⟨(xt T e s 3).1,0,[]⟩,(xt T e s 3).2)
def conS(s:PS):MCon×PS:=match xt T e s 4 with
 | (nm,s1)=>if isS T e s1 ⟨#[111,102]⟩=true then (match tyF T e 101 (advS s1) with
  | (a,s2)=>(⟨nm,true,a⟩,s2)) else (⟨nm,false,[]⟩,s1)
def yD:Nat->List MCon->PS->List MCon×PS
 | 0,l,s=>(l,s)
 | n+1,l,s=>if s.code=0 then (match conS T e s with
  | (c,s1)=>if isS T e s1 ⟨#[124]⟩=true then yD n (l++[c]) (advS s1) else (l++[c],s1)) else (l,s)
def wc(s:PS):MType×PS:=match yj T e s with
 | (t,s1)=>match yD T e (T.length+1) [] (xf T e s1 ⟨#[61]⟩) with
  | (l,s2)=>(⟨t.name,t.params,l⟩,xf T e s2 ⟨#[59]⟩)
def y9:Nat->List MType->PS->List MType×PS
 | 0,l,s=>(l,s)
 | n+1,l,s=>if isS T e s ⟨#[116,121,112,101]⟩=true then (match wc T e (advS s) with
  | (t,s1)=>y9 n (l++[t]) s1) else (l,s)
def Zl(s:PS)(t:MTok):Bool:=s.seen.any fun x=>decide (t.kind=3)&&(x.toList==t.s.toList)
def pushS(s:PS)(x:ByteArray):PS:=⟨s.i+1,s.code,s.at_,s.vars,s.seen++[x]⟩
section
variable (R:PS->PT×PS)
def z7:Nat->PS->PT×PS
 | 0,s=>(P0,s)
 | n+1,s=>
  if (tokS T e s).kind=3 then (if Zl s (tokS T e s)=true then (P0,xG T e s 8) else (pN 2 0 (tokS T e s).s [],pushS s (tokS T e s).s))
  else if (tokS T e s).kind=1 then (pN 3 (tokS T e s).n nS [],advS s)
  else if (tokS T e s).kind=4 then (if uU (tokS T e (advS s))=true then (match z7 n (advS s) with
    | (a,s1)=>(pN 4 0 (tokS T e s).s [a],s1)) else (pN 4 0 (tokS T e s).s [],advS s))
  else if isS T e s ⟨#[95]⟩=true then (pN 1 0 nS [],advS s)
  else if isS T e s ⟨#[116,114,117,101]⟩=true then (pN 4 0 ⟨#[116,114,117,101]⟩ [],advS s)
  else if isS T e s ⟨#[102,97,108,115,101]⟩=true then (pN 4 0 ⟨#[102,97,108,115,101]⟩ [],advS s)
  else if isS T e s ⟨#[91]⟩=true then (pN 4 0 ⟨#[91,93]⟩ [],xf T e (advS s) ⟨#[93]⟩)
  else if isS T e s ⟨#[45]⟩=true then (pN 3 (-(tokS T e (advS s)).n) nS [],(xt T e (advS s) 1).2)
  else if isS T e s ⟨#[40]⟩=true then (if isS T e (advS s) ⟨#[41]⟩=true then (pN 6 0 nS [],advS (advS s))
   else match R (advS s) with
    | (a,s1)=>if isS T e s1 ⟨#[44]⟩=true then (match R (advS s1) with
      | (b,s2)=>(pN 5 0 nS [a,b],xf T e s2 ⟨#[41]⟩)) else (a,xf T e s1 ⟨#[41]⟩))
  else (P0,xG T e s 7)
def uE(s:PS):PT×PS:=
 if s.code=0 then (match z7 T e R (T.length+1) s with
  | (a,s1)=>if isS T e s1 ⟨#[58,58]⟩=true then (match R (advS s1) with
    | (b,s2)=>(pN 4 0 ⟨#[58,58]⟩ [pN 5 0 nS [a,b]],s2)) else (a,s1))
 else (P0,s)
end
def patF:Nat->PS->PT×PS
 | 0,s=>if s.code=0 then (if Zl s (tokS T e s)=true then (P0,xG T e s 8) else (P0,wl T e s (uU (tokS T e s)))) else (P0,s)
 | k+1,s=>uE T e (patF k) s
section
variable (R:PS->ET×PS)
def zm(s:PS):ET×PS:=
 if begT (tokS T e s)=true then
  (if (tokS T e s).kind=1 then (.mk ⟨1,(tokS T e s).at_,(tokS T e s).n,nS,[]⟩ [],advS s)
  else if (tokS T e s).kind=2 then (eN 2 (tokS T e s).at_ (tokS T e s).s [],advS s)
  else if (tokS T e s).kind=3 then (eN 3 (tokS T e s).at_ (tokS T e s).s [],advS s)
  else if (tokS T e s).kind=4 then (eN 4 (tokS T e s).at_ (tokS T e s).s [],advS s)
  else if ((tokS T e s).s.toList==(⟨#[91]⟩:ByteArray).toList)=true then (eN 4 (tokS T e s).at_ ⟨#[91,93]⟩ [],xf T e (advS s) ⟨#[93]⟩)
  else if ((tokS T e s).s.toList==(⟨#[40]⟩:ByteArray).toList)=true then
   (if isS T e (advS s) ⟨#[41]⟩=true then (eN 12 (tokS T e s).at_ nS [],advS (advS s))
   else match R (advS s) with
    | (a,s1)=>if isS T e s1 ⟨#[44]⟩=true then (match R (advS s1) with
      | (b,s2)=>(eN 11 (tokS T e s).at_ nS [a,b],xf T e s2 ⟨#[41]⟩)) else (a,xf T e s1 ⟨#[41]⟩))
  else (eN 4 (tokS T e s).at_ (tokS T e s).s [],advS s))
 else (E0,xG T e s 7)
def kidT(a b:ET):ET:=.mk a.a [b]
def appF:Nat->Bool->ET->PS->ET×PS
 | 0,_,a,s=>(a,s)
 | n+1,bare,a,s=>if s.code=0/\begT (tokS T e s)=true then (match zm T e R s with
  | (b,s1)=>appF n false (if bare=true then kidT a b else eN 6 (tokS T e s).at_ nS [a,b]) s1) else (a,s)
def appS(s:PS):ET×PS:=match zm T e R s with
 | (a,s1)=>appF T e R (T.length+1) (decide ((tokS T e s).kind=4)) a s1
def unF:Nat->PS->ET×PS
 | 0,s=>(E0,s)
 | n+1,s=>
  if isS T e s ⟨#[114,97,105,115,101]⟩=true then (match unF n (advS s) with|(a,s1)=>(eN 14 (tokS T e s).at_ nS [a],s1))
  else if isS T e s ⟨#[114,101,102]⟩=true then (match unF n (advS s) with|(a,s1)=>(eN 16 (tokS T e s).at_ nS [a],s1))
  else if isS T e s ⟨#[33]⟩=true then (match unF n (advS s) with|(a,s1)=>(eN 17 (tokS T e s).at_ nS [a],s1))
  else if isS T e s ⟨#[45]⟩=true then (match unF n (advS s) with|(a,s1)=>(eN 10 (tokS T e s).at_ ⟨#[45]⟩ [eN 1 (tokS T e s).at_ nS [],a],s1))
  else appS T e R s
def zd(L:List ByteArray)(Q:PS->ET×PS):Nat->ET->PS->ET×PS
 | 0,a,s=>(a,s)
 | n+1,a,s=>if s.code=0/\inT (tokS T e s) L=true then (match Q (advS s) with
  | (b,s1)=>zd L Q n (eN 10 (tokS T e s).at_ (tokS T e s).s [a,b]) s1) else (a,s)
def wj(s:PS):ET×PS:=match unF T e R (T.length+1) s with
 | (a,s1)=>zd T e [⟨#[42]⟩,⟨#[47]⟩,⟨#[37]⟩] (unF T e R (T.length+1)) (T.length+1) a s1
def uu(s:PS):ET×PS:=match wj T e R s with
 | (a,s1)=>zd T e [⟨#[43]⟩,⟨#[45]⟩,⟨#[94]⟩] (wj T e R) (T.length+1) a s1
def wt:Nat->PS->ET×PS
 | 0,s=>(E0,s)
 | n+1,s=>match uu T e R s with
  | (a,s1)=>if isS T e s1 ⟨#[58,58]⟩=true then (match wt n (advS s1) with
    | (b,s2)=>(consT (tokS T e s1).at_ a b,s2)) else (a,s1)
def cmpS(s:PS):ET×PS:=match wt T e R (T.length+1) s with
 | (a,s1)=>if inT (tokS T e s1) [⟨#[61]⟩,⟨#[60,62]⟩,⟨#[60]⟩,⟨#[60,61]⟩]=true then (match wt T e R (T.length+1) (advS s1) with
   | (b,s2)=>(eN 10 (tokS T e s1).at_ (tokS T e s1).s [a,b],s2)) else (a,s1)
def setF:Nat->PS->ET×PS
 | 0,s=>(E0,s)
 | n+1,s=>match cmpS T e R s with
  | (a,s1)=>if isS T e s1 ⟨#[58,61]⟩=true then (match setF n (advS s1) with
    | (b,s2)=>(eN 18 (tokS T e s1).at_ nS [a,b],s2)) else (a,s1)
def layP(p:PT):MPat:=⟨Arb.lay PI.node 0 p⟩
def wh(s:PS):PS:=⟨s.i,s.code,s.at_,s.vars,[]⟩
def yZ:Nat->List MPat->List ET->PS->List MPat×List ET×PS
 | 0,qs,l,s=>(qs,l,s)
 | n+1,qs,l,s=>if s.code=0 then (match patF T e 101 (wh s) with
  | (p,s1)=>match R (xf T e s1 ⟨#[45,62]⟩) with
   | (b,s2)=>if isS T e s2 ⟨#[124]⟩=true then yZ n (qs++[layP p]) (l++[b]) (advS s2) else (qs++[layP p],l++[b],s2)) else (qs,l,s)
def wM(at_:Int)(s:PS):ET×PS:=match R s with
 | (a,s1)=>match yZ T e R (T.length+1) [] [a] (xf T e s1 ⟨#[119,105,116,104]⟩) with
  | (qs,l,s2)=>(.mk ⟨13,at_,0,nS,qs⟩ l,xf T e s2 ⟨#[101,110,100]⟩)
def wW(s:PS):ET×PS:=
 if s.code=0 then
  (if isS T e s ⟨#[102,117,110]⟩=true then (match xt T e (advS s) 3 with
   | (x,s1)=>match R (xf T e s1 ⟨#[45,62]⟩) with
    | (b,s2)=>(eN 5 (tokS T e s).at_ x [b],s2))
  else if isS T e s ⟨#[108,101,116]⟩=true then
   (if isS T e (advS s) ⟨#[114,101,99]⟩=true then (match xt T e (advS (advS s)) 3 with
    | (f,s1)=>match xt T e s1 3 with
     | (x,s2)=>match R (xf T e s2 ⟨#[61]⟩) with
      | (a,s3)=>match R (xf T e s3 ⟨#[105,110]⟩) with
       | (b,s4)=>(eN 8 (tokS T e s).at_ f [eN 5 (tokS T e s1).at_ x [a],b],s4))
   else match xt T e (advS s) 3 with
    | (x,s1)=>match R (xf T e s1 ⟨#[61]⟩) with
     | (a,s2)=>match R (xf T e s2 ⟨#[105,110]⟩) with
      | (b,s3)=>(eN 7 (tokS T e s).at_ x [a,b],s3))
  else if isS T e s ⟨#[105,102]⟩=true then (match R (advS s) with
   | (a,s1)=>match R (xf T e s1 ⟨#[116,104,101,110]⟩) with
    | (b,s2)=>match R (xf T e s2 ⟨#[101,108,115,101]⟩) with
     | (d,s3)=>(eN 9 (tokS T e s).at_ nS [a,b,d],s3))
  else if isS T e s ⟨#[109,97,116,99,104]⟩=true then wM T e R (tokS T e s).at_ (advS s)
  else if isS T e s ⟨#[116,114,121]⟩=true then (match R (advS s) with
   | (a,s1)=>match xt T e (xf T e s1 ⟨#[119,105,116,104]⟩) 3 with
    | (x,s2)=>match R (xf T e s2 ⟨#[45,62]⟩) with
     | (b,s3)=>(eN 15 (tokS T e s).at_ x [a,b],xf T e s3 ⟨#[101,110,100]⟩))
  else match setF T e R (T.length+1) s with
   | (a,s1)=>if isS T e s1 ⟨#[59]⟩=true then (match R (advS s1) with
     | (b,s2)=>(eN 19 (tokS T e s1).at_ nS [a,b],s2)) else (a,s1))
 else (E0,s)
end
def uA:Nat->PS->ET×PS
 | 0,s=>if s.code=0 then (E0,wl T e s (Ws (tokS T e s))) else (E0,s)
 | k+1,s=>wW T e (uA k) s
def U6:List MType×ET×PS:=match y9 T e (T.length+1) [] ⟨0,0,0,[],[]⟩ with
 | (ts,s1)=>match uA T e 101 s1 with
  | (a,s2)=>(ts,a,if s2.code=0/\s2.i<T.length then xG T e s2 7 else s2)
end
def parT(T:List MTok)(e:Int):MProgram×Int×Int:=match U6 T e with
 | (ts,a,s)=>if s.code≠0 then (⟨[],[]⟩,s.code,s.at_)
  else if a.size>600\/ts.length>8\/(ts.any fun t=>decide (t.cons.length>8))=true then (⟨[],[]⟩,10,0)
  else (⟨ts,Arb.lay EI.node 0 a⟩,0,0)
end
section
open Go.RowKit
def rdD(T:List MTok)(e:Int)(s:PS):List D:=[.sl 4 (T.map MTok.enc),.s (.int .i64 s.i),.s (.int .i64 e),.s (.int .i64 s.code),.s (.int .i64 s.at_),.sl 1 (s.vars.map iE),.osl 9 1 (s.seen.map stE)]
def rdF(T:List MTok)(e:Int)(s:PS):List D:=[.sl 4 (T.map MTok.enc),.s (.int .i64 s.i),.s (.int .i64 e),.s (.int .i64 s.code),.s (.int .i64 s.at_),.sl 1 (s.vars.map iE),.sl 1 (s.seen.map stE)]
theorem xb(T:List MTok)(e:Int)(s:PS):rdD T e s=[.sl 4 (T.map MTok.enc),.s (.int .i64 s.i),.s (.int .i64 e),.s (.int .i64 s.code),.s (.int .i64 s.at_),.sl 1 (s.vars.map iE),.osl 9 1 (s.seen.map stE)]:=rfl
theorem xh(T:List MTok)(e:Int)(s:PS):rdF T e s=[.sl 4 (T.map MTok.enc),.s (.int .i64 s.i),.s (.int .i64 e),.s (.int .i64 s.code),.s (.int .i64 s.at_),.sl 1 (s.vars.map iE),.sl 1 (s.seen.map stE)]:=rfl
theorem xe(l:List Int):xU (l.map iE)=l.map iE:=yh (fun _=>rfl) l
theorem Zo{T:List MTok}{e:Int}{s:PS}(h:¬ (s.code=0/\s.i<T.length)):tokS T e s=⟨0,0,nS,e⟩:=by unfold tokS;rw [if_neg h]
theorem tok_at{T:List MTok}{e:Int}{s:PS}(h0:s.code=0)(h:s.i<T.length):tokS T e s=T[s.i]:=by
 unfold tokS;rw [if_pos ⟨h0,h⟩,List.getD_eq_getElem?_getD,List.getElem?_eq_getElem h];rfl
theorem kF{k z:Int}(h:¬ k=z):(k==z)=false:=by simpa using h
theorem kT{k z:Int}(h:k=z):(k==z)=true:=by simpa using h
theorem knF{k z:Int}(h:¬ k=z):(k != z)=true:=by simpa using h
theorem knT{k z:Int}(h:k=z):(k != z)=false:=by simpa using h
theorem xJ(t:MTok):FT 197 [.ag t.enc] (fun r _=>r=.s (.string (sgT t))):=by
 rw [MTok.enc_eq];unfold sgT
 by_cases h:t.kind=6
 .have f:=knT h
  rw [if_pos h];refine FI PM Tryz.func197 Tryz.ntmps197 [] rfl rfl ?_
  (have hWf:=w1 @f;repeat' (first|refine zS ?_|refine zI ?_ ?_|exact zF0|refine zD fun hb=>?_|exact zC|refine zT ?_|fail))
 .have f:=knF h
  rw [if_neg h];refine FI PM Tryz.func197 Tryz.ntmps197 [] rfl rfl ?_
  (have hWf:=w1 @f;repeat' (first|refine zS ?_|refine zI ?_ ?_|exact zF0|refine zD fun hb=>?_|exact zC|refine zT ?_|fail))
  all_goals rfl
theorem xp(T:List MTok)(e:Int)(s:PS):FT 198 [.pt (rdF T e s)] (fun r _=>r=.ag (tokS T e s).enc):=by
 rw [xh]
 by_cases h0:s.code=0
 .have f:=knT h0
  by_cases hi:s.i<T.length
  .rw [tok_at h0 hi]
   have hx:=xi MTok.enc T s.i hi;have he:=MTok.enc_eq T[s.i];rw [he];refine FI PM Tryz.func198 Tryz.ntmps198 [(1,15,[],[],(lin [] [0,1,2,3,4,5,6,7,8,9,10,11,12,13,14])),(3,8,[],[],(lin [] [0,1,2,3,4,5,6,7]))] rfl rfl ?_
   (have hWf:=w3 @f @hx @he;repeat' (first|refine zS ?_|refine zI ?_ ?_|exact zF0|refine zD fun hb=>?_|exact zC|refine zT ?_|fail))
  .rw [Zo (fun q=>hi q.2),MTok.enc_eq]
   refine FI PM Tryz.func198 Tryz.ntmps198 [(1,15,[],[],(lin [] [0,1,2,3,4,5,6,7,8,9,10,11,12,13,14])),(3,8,[],[],(lin [] [0,1,2,3,4,5,6,7]))] rfl rfl ?_
   (have hWf:=w1 @f;repeat' (first|refine zS ?_|refine zI ?_ ?_|exact zF0|refine zD fun hb=>?_|exact zC|refine zT ?_|fail))
   all_goals rfl
 .have f:=knF h0
  rw [Zo (fun q=>h0 q.1),MTok.enc_eq]
  refine FI PM Tryz.func198 Tryz.ntmps198 [(1,15,[],[],(lin [] [0,1,2,3,4,5,6,7,8,9,10,11,12,13,14])),(3,8,[],[],(lin [] [0,1,2,3,4,5,6,7]))] rfl rfl ?_
  (have hWf:=w1 @f;repeat' (first|refine zS ?_|refine zI ?_ ?_|exact zF0|refine zD fun hb=>?_|exact zC|refine zT ?_|fail))
  all_goals rfl
theorem xD(T:List MTok)(e:Int)(s:PS)(x:ByteArray):FT 128 [.pt (rdF T e s),.s (.string x)] (fun r _=>r=.s (.bool (isS T e s x))):=by
 have ht:=xp T e s;have hs:=xJ (tokS T e s);have he:isS T e s x=((sgT (tokS T e s)).toList==x.toList):=rfl;rw [he];generalize tokS T e s=t at *
 rw [xh,MTok.enc_eq] at ht
 rw [MTok.enc_eq] at hs
 rw [xh];refine FI PM Tryz.func128 Tryz.ntmps128 [] rfl rfl ?_
 (have hWf:=f0;repeat' (first|refine zS ?_|refine zI ?_ ?_|refine zK ht ?_|refine zK hs ?_|exact zF0|refine zD fun hb=>?_|exact zC|refine zT ?_|fail))
theorem y3(T:List MTok)(e:Int)(s:PS)(c:Int):FT 131 [.opt (rdD T e s),.s (.int .i64 c)] (fun r o=>r=.tup []/\o=[.opt (rdD T e (xG T e s c)),.un]):=by
 rw [xb,xb];unfold xG
 by_cases h0:s.code=0
 .have f:=knT h0
  rw [if_pos h0]
  by_cases hi:s.i<T.length
  .have hx:=xi MTok.enc T s.i hi
   have he:=MTok.enc_eq T[s.i];have hg:T.getD s.i ⟨0,0,nS,0⟩=T[s.i]:=by rw [List.getD_eq_getElem?_getD,List.getElem?_eq_getElem hi];rfl
   rw [if_pos hi,hg];refine FI PM Tryz.func131 Tryz.ntmps131 [(3,9,[],[],(lin [] [0,1,2,3,4,5,6,7,8])),(4,12,[],[],(lin [] [0,1,2,3,4,5,6,7,8,9,10,11]))] rfl rfl ?_
   (have hWf:=w3 @f @hx @he;repeat' (first|refine zS ?_|refine zI ?_ ?_|exact zF0|refine zD fun hb=>?_|exact zC|refine zT ?_|fail))
   all_goals rfl
  .rw [if_neg hi]
   refine FI PM Tryz.func131 Tryz.ntmps131 [(3,9,[],[],(lin [] [0,1,2,3,4,5,6,7,8])),(4,12,[],[],(lin [] [0,1,2,3,4,5,6,7,8,9,10,11]))] rfl rfl ?_
   (have hWf:=w1 @f;repeat' (first|refine zS ?_|refine zI ?_ ?_|exact zF0|refine zD fun hb=>?_|exact zC|refine zT ?_|fail))
   all_goals rfl
 .have f:=knF h0
  rw [if_neg h0];refine FI PM Tryz.func131 Tryz.ntmps131 [(3,9,[],[],(lin [] [0,1,2,3,4,5,6,7,8])),(4,12,[],[],(lin [] [0,1,2,3,4,5,6,7,8,9,10,11]))] rfl rfl ?_
  (have hWf:=w1 @f;repeat' (first|refine zS ?_|refine zI ?_ ?_|exact zF0|refine zD fun hb=>?_|exact zC|refine zT ?_|fail))
  all_goals rfl
theorem yn(T:List MTok)(e:Int)(s:PS)(x:ByteArray):isS T e s x=((sgT (tokS T e s)).toList==x.toList):=rfl
theorem xS{T:List MTok}{e:Int}{s:PS}(h:(tokS T e s).kind≠0):s.code=0/\s.i<T.length:=by
 refine Classical.byContradiction fun q=>h ?_
 rw [Zo q]
theorem Uz{t:MTok}{x:ByteArray}(h:isT t x=true)(hx:x.toList≠[]):t.kind=6/\t.s.toList=x.toList:=by
 unfold isT sgT at h
 split at h
 .rename_i k;exact ⟨k,by simpa using h⟩
 .exfalso
  have:nS.toList=[]:=by rw [ByteArray.toList_eq];rfl
  rw [this] at h
  simp only [beq_iff_eq] at h
  exact hx h.symm
theorem xA{T:List MTok}{e:Int}{s:PS}{x:ByteArray}(h:isS T e s x=true)(hx:x.toList≠[]):s.code=0/\s.i<T.length:=xS (by rw [(Uz h hx).1];decide)
theorem xa{l:List UInt8}(h:l≠[]):(⟨l.toArray⟩:ByteArray).toList≠[]:=by rw [ByteArray.toList_eq];simpa using h
theorem xI(T:List MTok)(e:Int)(s:PS)(hT:T.length<=1000000)(x:ByteArray)(hx:x.toList≠[]):FT 200 [.opt (rdD T e s),.s (.string x)] (fun r o=>r=.tup []/\o=[.opt (rdD T e (xf T e s x)),.un]):=by
 have hi:=xD T e s x;have hf:=y3 T e s 7;unfold xf;cases h:isS T e s x with
 | true=>
  have:=(xA h hx).2;rw [h] at hi
  rw [if_pos rfl];unfold advS;rw [xh] at hi
  rw [xb,xb];refine FI PM Tryz.func200 Tryz.ntmps200 [] rfl rfl ?_
  (have hWf:=w2 @xe @xd;repeat' (first|refine zS ?_|refine zI ?_ ?_|refine zK hi ?_|exact zF0|refine zD fun hb=>?_|exact zC|refine zT ?_|fail))
  all_goals rfl
 | false=>
  rw [h] at hi
  rw [if_neg (by decide)]
  rw [xh] at hi
  rw [xb,xb] at hf
  rw [xb,xb];refine FI PM Tryz.func200 Tryz.ntmps200 [] rfl rfl ?_
  (have hWf:=w2 @xe @xd;repeat' (first|refine zS ?_|refine zI ?_ ?_|refine zK hi ?_|refine zH hf ?_|exact zF0|refine zD fun hb=>?_|exact zC|refine zT ?_|fail))
  all_goals rfl
theorem yO(T:List MTok)(e:Int)(s:PS)(hT:T.length<=1000000)(k:Int)(hk:k≠0):FT 201 [.opt (rdD T e s),.s (.int .i64 k)] (fun r o=>r=.s (.string (xt T e s k).1)/\o=[.opt (rdD T e (xt T e s k).2),.un]):=by
 have ht:=xp T e s;have hf:=y3 T e s 7;unfold xt;have hl:=xS (T:=T) (e:=e) (s:=s);generalize tokS T e s=t at *
 rw [MTok.enc_eq,xh] at ht
 by_cases h:t.kind=k
 .have f:=knT h
  rw [if_pos h];have:=(hl (by rw [h];exact hk)).2
  show FCon _ _ _ (fun r o=>r=.s (.string t.s)/\o=[.opt (rdD T e (advS s)),.un])
  unfold advS;rw [xb,xb];refine FI PM Tryz.func201 Tryz.ntmps201 [] rfl rfl ?_
  (have hWf:=w3 @xe @xd @f;repeat' (first|refine zS ?_|refine zI ?_ ?_|refine zK ht ?_|exact zF0|refine zD fun hb=>?_|exact zC|refine zT ?_|fail))
  all_goals rfl
 .have f:=knF h
  rw [if_neg h];show FCon _ _ _ (fun r o=>r=.s (.string nS)/\o=[.opt (rdD T e (xG T e s 7)),.un])
  rw [xb,xb] at hf
  rw [xb,xb];refine FI PM Tryz.func201 Tryz.ntmps201 [] rfl rfl ?_
  (have hWf:=w3 @xe @xd @f;repeat' (first|refine zS ?_|refine zI ?_ ?_|refine zK ht ?_|refine zH hf ?_|exact zF0|refine zD fun hb=>?_|exact zC|refine zT ?_|fail))
  all_goals rfl
theorem inT_succ(t:MTok)(l:List ByteArray){k:Nat}(h:k<l.length):inT t (l.take (k+1))=(inT t (l.take k)||isT t l[k]):=by
 unfold inT;rw [List.take_succ_eq_append_getElem h,List.any_append];simp
theorem inT_mono(t:MTok)(l:List ByteArray)(k:Nat)(h:inT t (l.take k)=true):inT t l=true:=by
 unfold inT at h ⊢
 rw [List.any_eq_true] at h ⊢
 obtain ⟨x,h1,h2⟩:=h;exact ⟨x,List.mem_of_mem_take h1,h2⟩
theorem vg(T:List MTok)(e:Int)(s:PS)(l:List ByteArray)(hl:l.length<=1000):FT 244 [.pt (rdF T e s),.sl 1 (l.map stE)] (fun r _=>r=.s (.bool (inT (tokS T e s) l))):=by
 have his:=xD T e s;rw [xh] at his ⊢
 refine FI PM Tryz.func244 Tryz.ntmps244 [] rfl rfl ?_
 (have hWf:=f0;repeat' (first|refine zS ?_|refine zI ?_ ?_|exact zF0|refine zD fun hb=>?_|exact zC|refine zT ?_|fail))
 refine xn (fun n σ=>∃ k:Nat,k<=l.length/\n=l.length - k/\inT (tokS T e s) (l.take k)=false/\σ.t 0=.pt [.sl 4 (T.map MTok.enc),.s (.int .i64 s.i),.s (.int .i64 e),.s (.int .i64 s.code),.s (.int .i64 s.at_),.sl 1 (s.vars.map iE),.sl 1 (s.seen.map stE)]/\σ.t 7=.sl 1 (l.map stE)/\σ.t 8=.s (.int .i64 l.length)/\σ.t 9=.s (.int .i64 k)) l.length ⟨0,by omega,by omega,rfl,?_⟩ ?_
 .simp only [go_sem,simprocAttr,Int.natCast_zero]
 .rintro n σ ⟨k,hk,rfl,hn,h0,h7,h8,h9⟩ K' hK
  by_cases hlt:k<l.length
  .have hx:=xi stE l k hlt
   have he:stE l[k]=[.s (.string l[k])]:=xH _;have hs:=inT_succ (tokS T e s) l hlt;rw [hn,Bool.false_or] at hs
   have hik:=his l[k];rw [show isS T e s l[k]=isT (tokS T e s) l[k] from rfl] at hik
   cases h3:isT (tokS T e s) l[k] with
   | true=>
    rw [h3] at hs hik
    rw [inT_mono _ l _ hs]
    (have hWf:=w6 @h0 @h7 @h8 @h9 @hx @he;repeat' (first|refine zS ?_|refine zI ?_ ?_|refine zK hik ?_|exact zF0|refine zD fun hb=>?_|exact zC|refine zT ?_|fail))
   | false=>
    rw [h3] at hs hik
    (have hWf:=w6 @h0 @h7 @h8 @h9 @hx @he;repeat' (first|refine zS ?_|refine zI ?_ ?_|refine zK hik ?_|exact zF0|refine zD fun hb=>?_|exact zC|refine zT ?_|fail))
    refine hK (l.length - (k+1)) _ (by omega) ⟨k+1,by omega,rfl,hs,?_⟩
    simp only [go_sem,simprocAttr,h0,h7,h8,h9,Int.natCast_succ]
  .obtain rfl:k=l.length:=by omega
   rw [List.take_length] at hn
   rw [hn]
   (have hWf:=w4 @h0 @h7 @h8 @h9;repeat' (first|refine zS ?_|refine zI ?_ ?_|exact zF0|refine zD fun hb=>?_|exact zC|refine zT ?_|fail))
theorem WO(T:List MTok)(e:Int)(s:PS):FT 260 [.pt (rdF T e s)] (fun r _=>r=.s (.bool (tywT (tokS T e s)))):=by
 have ht:=xp T e s;have hi:=xD T e s (⟨#[114,101,102]⟩:ByteArray);rw [show isS T e s (⟨#[114,101,102]⟩:ByteArray)=isT (tokS T e s) (⟨#[114,101,102]⟩:ByteArray) from rfl] at hi
 unfold tywT;generalize tokS T e s=t at *
 rw [xh,MTok.enc_eq] at ht
 rw [xh] at hi ⊢
 by_cases h:t.kind=3
 .have f:=kT h
  rw [decide_eq_true h,Bool.true_or];refine FI PM Tryz.func260 Tryz.ntmps260 [] rfl rfl ?_
  (have hWf:=w1 @f;repeat' (first|refine zS ?_|refine zI ?_ ?_|refine zK ht ?_|refine zK hi ?_|exact zF0|refine zD fun hb=>?_|exact zC|refine zT ?_|fail))
 .have f:=kF h
  rw [decide_eq_false h,Bool.false_or];refine FI PM Tryz.func260 Tryz.ntmps260 [] rfl rfl ?_
  (have hWf:=w1 @f;repeat' (first|refine zS ?_|refine zI ?_ ?_|refine zK ht ?_|refine zK hi ?_|exact zF0|refine zD fun hb=>?_|exact zC|refine zT ?_|fail))
theorem Q0(T:List MTok)(e:Int)(s:PS):FT 263 [.pt (rdF T e s)] (fun r _=>r=.s (.bool (uU (tokS T e s)))):=by
 have ht:=xp T e s;have hi:=vg T e s [(⟨#[95]⟩:ByteArray),(⟨#[45]⟩:ByteArray),(⟨#[40]⟩:ByteArray),(⟨#[91]⟩:ByteArray),(⟨#[116,114,117,101]⟩:ByteArray),(⟨#[102,97,108,115,101]⟩:ByteArray)] (by decide)
 simp only [List.map_cons,List.map_nil,xH] at hi
 unfold uU;generalize tokS T e s=t at *
 rw [xh,MTok.enc_eq] at ht
 rw [xh] at hi ⊢
 by_cases h3:t.kind=3
 .have f:=kT h3
  rw [decide_eq_true (.inl h3),Bool.true_or];refine FI PM Tryz.func263 Tryz.ntmps263 [] rfl rfl ?_
  (have hWf:=w1 @f;repeat' (first|refine zS ?_|refine zI ?_ ?_|refine zK ht ?_|refine zK hi ?_|exact zF0|refine zD fun hb=>?_|exact zC|refine zT ?_|fail))
 .by_cases h1:t.kind=1
  .have f:=kF h3
   have f1:=kT h1;rw [decide_eq_true (.inr (.inl h1)),Bool.true_or];refine FI PM Tryz.func263 Tryz.ntmps263 [] rfl rfl ?_
   (have hWf:=w2 @f @f1;repeat' (first|refine zS ?_|refine zI ?_ ?_|refine zK ht ?_|refine zK hi ?_|exact zF0|refine zD fun hb=>?_|exact zC|refine zT ?_|fail))
  .by_cases h4:t.kind=4
   .have f:=kF h3
    have f1:=kF h1;have f4:=kT h4;rw [decide_eq_true (.inr (.inr h4)),Bool.true_or];refine FI PM Tryz.func263 Tryz.ntmps263 [] rfl rfl ?_
    (have hWf:=w3 @f @f1 @f4;repeat' (first|refine zS ?_|refine zI ?_ ?_|refine zK ht ?_|refine zK hi ?_|exact zF0|refine zD fun hb=>?_|exact zC|refine zT ?_|fail))
   .have f:=kF h3
    have f1:=kF h1;have f4:=kF h4;rw [decide_eq_false (by simp [h3,h1,h4]),Bool.false_or]
    refine FI PM Tryz.func263 Tryz.ntmps263 [] rfl rfl ?_
    (have hWf:=w3 @f @f1 @f4;repeat' (first|refine zS ?_|refine zI ?_ ?_|refine zK ht ?_|refine zK hi ?_|exact zF0|refine zD fun hb=>?_|exact zC|refine zT ?_|fail))
theorem yE(T:List MTok)(e:Int)(s:PS):FT 243 [.pt (rdF T e s)] (fun r _=>r=.s (.bool (begT (tokS T e s)))):=by
 have ht:=xp T e s;have hs:=xJ (tokS T e s);have hd:begT (tokS T e s)=(decide ((tokS T e s).kind=1\/(tokS T e s).kind=2\/(tokS T e s).kind=3\/(tokS T e s).kind=4)||((sgT (tokS T e s)).toList==((⟨#[40]⟩:ByteArray)).toList)||((sgT (tokS T e s)).toList==((⟨#[91]⟩:ByteArray)).toList)||((sgT (tokS T e s)).toList==((⟨#[116,114,117,101]⟩:ByteArray)).toList)||((sgT (tokS T e s)).toList==((⟨#[102,97,108,115,101]⟩:ByteArray)).toList)):=rfl
 rw [hd];clear hd;generalize tokS T e s=t at *
 generalize sgT t=g at *
 rw [MTok.enc_eq] at hs
 rw [xh,MTok.enc_eq] at ht
 rw [xh]
 by_cases h1:t.kind=1
 .have f1:=kT h1
  rw [decide_eq_true (.inl h1),Bool.true_or,Bool.true_or,Bool.true_or,Bool.true_or];refine FI PM Tryz.func243 Tryz.ntmps243 [] rfl rfl ?_
  (have hWf:=w1 @f1;repeat' (first|refine zS ?_|refine zI ?_ ?_|refine zK ht ?_|refine zK hs ?_|exact zF0|refine zD fun hb=>?_|exact zC|refine zT ?_|fail))
 .have f1:=kF h1
  by_cases h2:t.kind=2
  .have f2:=kT h2
   rw [decide_eq_true (.inr (.inl h2)),Bool.true_or,Bool.true_or,Bool.true_or,Bool.true_or];refine FI PM Tryz.func243 Tryz.ntmps243 [] rfl rfl ?_
   (have hWf:=w2 @f1 @f2;repeat' (first|refine zS ?_|refine zI ?_ ?_|refine zK ht ?_|refine zK hs ?_|exact zF0|refine zD fun hb=>?_|exact zC|refine zT ?_|fail))
  .have f2:=kF h2
   by_cases h3:t.kind=3
   .have f3:=kT h3
    rw [decide_eq_true (.inr (.inr (.inl h3))),Bool.true_or,Bool.true_or,Bool.true_or,Bool.true_or];refine FI PM Tryz.func243 Tryz.ntmps243 [] rfl rfl ?_
    (have hWf:=w3 @f1 @f2 @f3;repeat' (first|refine zS ?_|refine zI ?_ ?_|refine zK ht ?_|refine zK hs ?_|exact zF0|refine zD fun hb=>?_|exact zC|refine zT ?_|fail))
   .have f3:=kF h3
    by_cases h4:t.kind=4
    .have f4:=kT h4
     rw [decide_eq_true (.inr (.inr (.inr h4))),Bool.true_or,Bool.true_or,Bool.true_or,Bool.true_or];refine FI PM Tryz.func243 Tryz.ntmps243 [] rfl rfl ?_
     (have hWf:=w4 @f1 @f2 @f3 @f4;repeat' (first|refine zS ?_|refine zI ?_ ?_|refine zK ht ?_|refine zK hs ?_|exact zF0|refine zD fun hb=>?_|exact zC|refine zT ?_|fail))
    .have f4:=kF h4
     rw [decide_eq_false (by simp [h1,h2,h3,h4]),Bool.false_or]
     cases q1:(g.toList==((⟨#[40]⟩:ByteArray)).toList) with
     | true=>
      refine FI PM Tryz.func243 Tryz.ntmps243 [] rfl rfl ?_
      (have hWf:=w5 @f1 @f2 @f3 @f4 @q1;repeat' (first|refine zS ?_|refine zI ?_ ?_|refine zK ht ?_|refine zK hs ?_|exact zF0|refine zD fun hb=>?_|exact zC|refine zT ?_|fail))
     | false=>
      cases q2:(g.toList==((⟨#[91]⟩:ByteArray)).toList) with
      | true=>
       refine FI PM Tryz.func243 Tryz.ntmps243 [] rfl rfl ?_
       (have hWf:=w6 @f1 @f2 @f3 @f4 @q1 @q2;repeat' (first|refine zS ?_|refine zI ?_ ?_|refine zK ht ?_|refine zK hs ?_|exact zF0|refine zD fun hb=>?_|exact zC|refine zT ?_|fail))
      | false=>
       cases q3:(g.toList==((⟨#[116,114,117,101]⟩:ByteArray)).toList) with
       | true=>
        refine FI PM Tryz.func243 Tryz.ntmps243 [] rfl rfl ?_
        (have hWf:=w7 @f1 @f2 @f3 @f4 @q1 @q2 @q3;repeat' (first|refine zS ?_|refine zI ?_ ?_|refine zK ht ?_|refine zK hs ?_|exact zF0|refine zD fun hb=>?_|exact zC|refine zT ?_|fail))
       | false=>
        refine FI PM Tryz.func243 Tryz.ntmps243 [] rfl rfl ?_
        (have hWf:=w7 @f1 @f2 @f3 @f4 @q1 @q2 @q3;repeat' (first|refine zS ?_|refine zI ?_ ?_|refine zK ht ?_|refine zK hs ?_|exact zF0|refine zD fun hb=>?_|exact zC|refine zT ?_|fail))
theorem QZ(T:List MTok)(e:Int)(s:PS):FT 204 [.pt (rdF T e s)] (fun r _=>r=.s (.bool (Ws (tokS T e s)))):=by
 have hb:=yE T e s;have hi:=vg T e s [(⟨#[102,117,110]⟩:ByteArray),(⟨#[108,101,116]⟩:ByteArray),(⟨#[105,102]⟩:ByteArray),(⟨#[109,97,116,99,104]⟩:ByteArray),(⟨#[116,114,121]⟩:ByteArray),(⟨#[114,97,105,115,101]⟩:ByteArray),(⟨#[114,101,102]⟩:ByteArray),(⟨#[33]⟩:ByteArray),(⟨#[45]⟩:ByteArray)] (by decide)
 simp only [List.map_cons,List.map_nil,xH] at hi
 unfold Ws;rw [xh] at hi hb ⊢
 cases h:begT (tokS T e s) with
 | true=>
  rw [h] at hb
  rw [Bool.true_or];refine FI PM Tryz.func204 Tryz.ntmps204 [] rfl rfl ?_
  (have hWf:=f0;repeat' (first|refine zS ?_|refine zI ?_ ?_|refine zK hb ?_|refine zK hi ?_|exact zF0|refine zD fun hb=>?_|exact zC|refine zT ?_|fail))
 | false=>
  rw [h] at hb
  rw [Bool.false_or];refine FI PM Tryz.func204 Tryz.ntmps204 [] rfl rfl ?_
  (have hWf:=f0;repeat' (first|refine zS ?_|refine zI ?_ ?_|refine zK hb ?_|refine zK hi ?_|exact zF0|refine zD fun hb=>?_|exact zC|refine zT ?_|fail))
theorem Y0{α:Type}(p:α->Bool)(l:List α){k:Nat}(h:k<l.length):(l.take (k+1)).any p=((l.take k).any p||p l[k]):=by
 rw [List.take_succ_eq_append_getElem h,List.any_append];simp
theorem QQ{α:Type}(p:α->Bool)(l:List α)(k:Nat)(h:(l.take k).any p=true):l.any p=true:=by
 rw [List.any_eq_true] at h ⊢
 obtain ⟨x,h1,h2⟩:=h;exact ⟨x,List.mem_of_mem_take h1,h2⟩
theorem any_no{α:Type}(l:List α):(l.any fun _=>false)=false:=by
 induction l with
 | nil=>rfl
 | cons a l ih=>rw [List.any_cons,ih];rfl
theorem X3(l:List Int)(v:Int):l.contains v=l.any fun x=>x==v:=by
 induction l with
 | nil=>rfl
 | cons x l ih=>
  rw [List.contains_cons,List.any_cons,ih]
  congr 1
  by_cases h:v=x
  .rw [h]
  .rw [kF h,kF (fun q=>h q.symm)]
theorem QC(T:List MTok)(e:Int)(s:PS)(hv:s.vars.length<=1000):FT 240 [.pt (rdF T e s)] (fun r _=>r=.s (.bool (YW T e s))):=by
 have ht:=xp T e s;have hi:=xD T e s (⟨#[40]⟩:ByteArray);have hd:YW T e s=((s.vars.any fun x=>(((tokS T e s).kind==5)&&(x==(tokS T e s).n)))||((tokS T e s).kind==3)||isS T e s (⟨#[40]⟩:ByteArray)):=by
  unfold YW;rw [X3,show decide ((tokS T e s).kind=3)=((tokS T e s).kind==3) from rfl]
  by_cases h5:(tokS T e s).kind=5
  .have f:=kT h5
   rw [decide_eq_true h5,f]
   simp
  .have f:=kF h5
   rw [decide_eq_false h5,f];simp only [Bool.false_and,any_no]
 rw [hd];clear hd;generalize tokS T e s=t at *
 generalize isS T e s (⟨#[40]⟩:ByteArray)=b at *
 rw [xh,MTok.enc_eq] at ht
 rw [xh] at hi ⊢
 refine FI PM Tryz.func240 Tryz.ntmps240 [] rfl rfl ?_
 (have hWf:=f0;repeat' (first|refine zS ?_|refine zI ?_ ?_|refine zK ht ?_|exact zF0|refine zD fun hb=>?_|exact zC|refine zT ?_|fail))
 refine xn (fun n σ=>∃ k:Nat,k<=s.vars.length/\n=s.vars.length - k/\((s.vars.take k).any fun x=>((t.kind==5)&&(x==t.n)))=false/\σ.t 0=.pt [.sl 4 (T.map MTok.enc),.s (.int .i64 s.i),.s (.int .i64 e),.s (.int .i64 s.code),.s (.int .i64 s.at_),.sl 1 (s.vars.map iE),.sl 1 (s.seen.map stE)]/\σ.t 3=.bx 3 0/\σ.b 3=some (.box [.s (.int .i64 t.kind),.s (.int .i64 t.n),.s (.string t.s),.s (.int .i64 t.at_)])/\σ.t 11=.sl 1 (s.vars.map iE)/\σ.t 12=.s (.int .i64 s.vars.length)/\σ.t 13=.s (.int .i64 k)) s.vars.length ⟨0,by omega,by omega,rfl,?_⟩ ?_
 .simp only [go_sem,simprocAttr,Int.natCast_zero]
 .rintro n σ ⟨k,hk,rfl,hn,h0,h3,b3,h11,h12,h13⟩ K' hK
  by_cases hlt:k<s.vars.length
  .have hx:=xi iE s.vars k hlt
   have he:iE s.vars[k]=[.s (.int .i64 s.vars[k])]:=rfl;have hs:=Y0 (fun x=>((t.kind==5)&&(x==t.n))) s.vars hlt
   rw [hn,Bool.false_or] at hs
   by_cases z5:t.kind=5
   .have q5:=kT z5
    rcases Bool.eq_false_or_eq_true (s.vars[k]==t.n) with qn|qn
    .have hs2:=QQ _ s.vars _ (hs.trans (by simp only [q5,qn];rfl))
     rw [hs2,Bool.true_or,Bool.true_or]
     (have hWf:=w10 @h0 @h3 @b3 @h11 @h12 @h13 @hx @he @q5 @qn;repeat' (first|refine zS ?_|refine zI ?_ ?_|exact zF0|refine zD fun hb=>?_|exact zC|refine zT ?_|fail))
    ·(have hWf:=w10 @h0 @h3 @b3 @h11 @h12 @h13 @hx @he @q5 @qn;repeat' (first|refine zS ?_|refine zI ?_ ?_|exact zF0|refine zD fun hb=>?_|exact zC|refine zT ?_|fail))
     refine hK (s.vars.length - (k+1)) _ (by omega) ⟨k+1,by omega,rfl,hs.trans (by simp only [q5,qn];rfl),?_⟩
     simp only [go_sem,simprocAttr,h0,h3,b3,h11,h12,h13,Int.natCast_succ]
   .have q5:=kF z5
    (have hWf:=w9 @h0 @h3 @b3 @h11 @h12 @h13 @hx @he @q5;repeat' (first|refine zS ?_|refine zI ?_ ?_|exact zF0|refine zD fun hb=>?_|exact zC|refine zT ?_|fail))
    refine hK (s.vars.length - (k+1)) _ (by omega) ⟨k+1,by omega,rfl,hs.trans (by simp only [q5];rfl),?_⟩
    simp only [go_sem,simprocAttr,h0,h3,b3,h11,h12,h13,Int.natCast_succ]
  .obtain rfl:k=s.vars.length:=by omega
   rw [List.take_length] at hn
   rw [hn,Bool.false_or];cases q3:(t.kind==3) with
   | true=>(have hWf:=w7 @h0 @h3 @b3 @h11 @h12 @h13 @q3;repeat' (first|refine zS ?_|refine zI ?_ ?_|exact zF0|refine zD fun hb=>?_|exact zC|refine zT ?_|fail))
   | false=>(have hWf:=w7 @h0 @h3 @b3 @h11 @h12 @h13 @q3;repeat' (first|refine zS ?_|refine zI ?_ ?_|refine zK hi ?_|exact zF0|refine zD fun hb=>?_|exact zC|refine zT ?_|fail))
theorem VY(T:List MTok)(e:Int)(s:PS)(t:MTok)(hv:s.seen.length<=1000000):FT 262 [.pt (rdF T e s),.ag t.enc] (fun r _=>r=.s (.bool (Zl s t))):=by
 have hd:Zl s t=s.seen.any fun x=>(t.kind==3)&&(x.toList==t.s.toList):=by
  rfl
 rw [hd,xh,MTok.enc_eq];clear hd;refine FI PM Tryz.func262 Tryz.ntmps262 [] rfl rfl ?_
 (have hWf:=f0;repeat' (first|refine zS ?_|refine zI ?_ ?_|exact zF0|refine zD fun hb=>?_|exact zC|refine zT ?_|fail))
 refine xn (fun n σ=>∃ k:Nat,k<=s.seen.length/\n=s.seen.length - k/\((s.seen.take k).any fun x=>((t.kind==3)&&(x.toList==t.s.toList)))=false/\σ.t 3=.bx 3 0/\σ.b 3=some (.box [.s (.int .i64 t.kind),.s (.int .i64 t.n),.s (.string t.s),.s (.int .i64 t.at_)])/\σ.t 10=.sl 1 (s.seen.map stE)/\σ.t 11=.s (.int .i64 s.seen.length)/\σ.t 12=.s (.int .i64 k)) s.seen.length ⟨0,by omega,by omega,rfl,?_⟩ ?_
 .simp only [go_sem,simprocAttr,Int.natCast_zero]
 .rintro n σ ⟨k,hk,rfl,hn,h3,b3,h10,h11,h12⟩ K' hK
  by_cases hlt:k<s.seen.length
  .have hx:=xi stE s.seen k hlt
   have he:stE s.seen[k]=[.s (.string s.seen[k])]:=xH _;have hs:=Y0 (fun x=>((t.kind==3)&&(x.toList==t.s.toList))) s.seen hlt
   rw [hn,Bool.false_or] at hs
   by_cases z3:t.kind=3
   .have q3:=kT z3
    rcases Bool.eq_false_or_eq_true (s.seen[k].toList==t.s.toList) with qn|qn
    .have hs2:=QQ _ s.seen _ (hs.trans (by simp only [q3,qn];rfl))
     rw [hs2]
     (have hWf:=w9 @h3 @b3 @h10 @h11 @h12 @hx @he @q3 @qn;repeat' (first|refine zS ?_|refine zI ?_ ?_|exact zF0|refine zD fun hb=>?_|exact zC|refine zT ?_|fail))
    ·(have hWf:=w9 @h3 @b3 @h10 @h11 @h12 @hx @he @q3 @qn;repeat' (first|refine zS ?_|refine zI ?_ ?_|exact zF0|refine zD fun hb=>?_|exact zC|refine zT ?_|fail))
     refine hK (s.seen.length - (k+1)) _ (by omega) ⟨k+1,by omega,rfl,hs.trans (by simp only [q3,qn];rfl),?_⟩
     simp only [go_sem,simprocAttr,h3,b3,h10,h11,h12,Int.natCast_succ]
   .have q3:=kF z3
    (have hWf:=w8 @h3 @b3 @h10 @h11 @h12 @hx @he @q3;repeat' (first|refine zS ?_|refine zI ?_ ?_|exact zF0|refine zD fun hb=>?_|exact zC|refine zT ?_|fail))
    refine hK (s.seen.length - (k+1)) _ (by omega) ⟨k+1,by omega,rfl,hs.trans (by simp only [q3];rfl),?_⟩
    simp only [go_sem,simprocAttr,h3,b3,h10,h11,h12,Int.natCast_succ]
  .obtain rfl:k=s.seen.length:=by omega
   rw [List.take_length] at hn
   rw [hn]
   (have hWf:=w5 @h3 @b3 @h10 @h11 @h12;repeat' (first|refine zS ?_|refine zI ?_ ?_|exact zF0|refine zD fun hb=>?_|exact zC|refine zT ?_|fail))
theorem ZL(T:List MTok)(e:Int)(s:PS)(b:Bool):FT 203 [.opt (rdD T e s),.s (.bool b)] (fun r o=>r=.tup []/\o=[.opt (rdD T e (wl T e s b)),.un]):=by
 have h9:=y3 T e s 9;have h7:=y3 T e s 7;unfold wl;rw [xb,xb] at h9 h7
 cases b with
 | true=>
  rw [if_pos rfl,xb,xb];refine FI PM Tryz.func203 Tryz.ntmps203 [] rfl rfl ?_
  (have hWf:=f0;repeat' (first|refine zS ?_|refine zI ?_ ?_|refine zH h9 ?_|exact zF0|refine zD fun hb=>?_|exact zC|refine zT ?_|fail))
  all_goals rfl
 | false=>
  rw [if_neg (by decide),xb,xb]
  refine FI PM Tryz.func203 Tryz.ntmps203 [] rfl rfl ?_
  (have hWf:=f0;repeat' (first|refine zS ?_|refine zI ?_ ?_|refine zH h7 ?_|exact zF0|refine zD fun hb=>?_|exact zC|refine zT ?_|fail))
  all_goals rfl
end
section
open Arb
section
variable {T:List MTok} {e:Int}
def Bd(T:List MTok)(s s':PS)(n:Nat):Prop:=s.i+n<=s'.i/\(s.i<=T.length->s'.i<=T.length)
theorem Bd.refl(s:PS):Bd T s s 0:=⟨Nat.le_refl _,fun h=>h⟩
theorem Bd.trans{s s' s'':PS}{m n:Nat}(h:Bd T s s' m)(h':Bd T s' s'' n):Bd T s s'' (m+n):=⟨by have:=h.1;have:=h'.1;omega,fun q=>h'.2 (h.2 q)⟩
theorem Bd.le{s s':PS}{m n:Nat}(h:Bd T s s' m)(hn:n<=m):Bd T s s' n:=⟨by have:=h.1;omega,h.2⟩
theorem X4(s:PS)(c:Int):Bd T s (xG T e s c) 0:=by
 unfold xG;split
 .exact ⟨Nat.le_refl _,fun h=>h⟩
 .exact Bd.refl s
theorem adv_bd{s:PS}(h:s.i<T.length):Bd T s (advS s) 1:=⟨Nat.le_refl _,fun _=>h⟩
theorem ve{s:PS}{x:ByteArray}(h:isS T e s x=true)(hx:x.toList≠[]):Bd T s (advS s) 1:=adv_bd (xA h hx).2
theorem Wn{s:PS}{k:Int}(h:(tokS T e s).kind=k)(hk:k≠0):Bd T s (advS s) 1:=adv_bd (xS (by rw [h];exact hk)).2
theorem ui(s:PS){x:ByteArray}(hx:x.toList≠[]):Bd T s (xf T e s x) 0:=by
 unfold xf;split
 .rename_i h;exact (ve h hx).le (Nat.zero_le _)
 .exact X4 s 7
theorem vD(s:PS){k:Int}(hk:k≠0):Bd T s (xt T e s k).2 0:=by
 unfold xt;split
 .rename_i h;exact (Wn h hk).le (Nat.zero_le _)
 .exact X4 s 7
theorem deep_bd(s:PS)(b:Bool):Bd T s (wl T e s b) 0:=by
 unfold wl;split<;>exact X4 _ _
theorem Xr{t:MTok}(h:begT t=true):t.kind≠0:=by
 intro q;unfold begT isT sgT at h
 rw [q] at h
 simp only [Int.reduceEq,or_self,decide_false,if_false,Bool.false_or,Bool.or_eq_true,beq_iff_eq] at h
 have:nS.toList=[]:=by rw [ByteArray.toList_eq];rfl
 rw [this] at h
 have n1:=xa (l:=[40]) (by simp)
 have n2:=xa (l:=[91]) (by simp)
 have n3:=xa (l:=[116,114,117,101]) (by simp)
 have n4:=xa (l:=[102,97,108,115,101]) (by simp)
 rcases h with ((h|h)|h)|h
 .exact n1 h.symm
 .exact n2 h.symm
 .exact n3 h.symm
 .exact n4 h.symm
theorem wX{t:MTok}{L:List ByteArray}(hL:∀ x∈L,x.toList≠[])(h:inT t L=true):t.kind≠0:=by
 unfold inT at h
 rw [List.any_eq_true] at h
 obtain ⟨x,h1,h2⟩:=h;rw [(Uz h2 (hL x h1)).1];decide
theorem UB{t:MTok}(h:tywT t=true):t.kind≠0:=by
 unfold tywT at h
 rw [Bool.or_eq_true,decide_eq_true_eq] at h
 rcases h with h|h
 .rw [h];decide
 .rw [(Uz h (xa (l:=[114,101,102]) (by simp))).1];decide
theorem ty1_len(nm:ByteArray)(a:List TyI):(ty1 nm [a]).length=1+a.length:=by simp [ty1];omega
theorem UA(nm:ByteArray)(a b:List TyI):(ty1 nm [a,b]).length=1+a.length+b.length:=by simp [ty1];omega
section
variable {R:PS->List TyI×PS} (hR:∀ s,Bd T s (R s).2 (R s).1.length)
include hR
theorem QT(s:PS):Bd T s (yr T e R s).2 (yr T e R s).1.length:=by
 unfold yr;split
 .rename_i h5
  split
  .exact Wn h5 (by decide)
  .exact X4 s 7
 .split
  .rename_i h3;exact Wn h3 (by decide)
  .split
   rename_i a s1 h1;have b1:=hR (xf T e s (⟨#[40]⟩:ByteArray));rw [h1] at b1
   have b0:=ui (T:=T) (e:=e) s (xa (l:=[40]) (by simp))
   split
   .rename_i hc
    split;rename_i b s2 h2;have b2:=hR (advS s1);rw [h2] at b2
    split;rename_i nm s3 h3;have b3:=vD (T:=T) (e:=e) (xf T e s2 (⟨#[41]⟩:ByteArray)) (k:=3) (by decide)
    rw [h3] at b3
    have b4:=((b0.trans b1).trans (ve hc (xa (l:=[44]) (by simp)))).trans ((b2.trans (ui (T:=T) (e:=e) s2 (xa (l:=[41]) (by simp)))).trans b3)
    refine b4.le ?_;show (ty1 nm [a,b]).length<=_;rw [UA];show 1+a.length+b.length<=0+a.length+1+(b.length+0+0);omega
   .exact ((b0.trans b1).trans (ui (T:=T) (e:=e) s1 (xa (l:=[41]) (by simp)))).le (by show a.length<=0+a.length+0;omega)
omit hR in
theorem appl_bd(n:Nat):∀ (a:List TyI) (s:PS),s.i+(yS T e n a s).1.length<=(yS T e n a s).2.i+a.length/\(s.i<=T.length->(yS T e n a s).2.i<=T.length)/\s.i<=(yS T e n a s).2.i:=by
 induction n with
 | zero=>intro a s;exact ⟨Nat.le_refl _,fun h=>h,Nat.le_refl _⟩
 | succ n ih=>
  intro a s;unfold yS;split
  .rename_i h
   have h1:=adv_bd (xS (UB h.2)).2;obtain ⟨i1,i2,i3⟩:=ih (ty1 (tokS T e s).s [a]) (advS s);rw [ty1_len] at i1
   have:=h1.1;refine ⟨by omega,fun q=>i2 (h1.2 q),by omega⟩
  .exact ⟨Nat.le_refl _,fun h=>h,Nat.le_refl _⟩
theorem Vz(n:Nat):∀ s,Bd T s (y7 T e R n s).2 (y7 T e R n s).1.length:=by
 induction n with
 | zero=>intro s;exact Bd.refl s
 | succ n ih=>
  intro s;unfold y7;split;rename_i a0 s0 h0;have b0:=QT hR (e:=e) s;rw [h0] at b0
  split;rename_i a s1 h1;obtain ⟨i1,i2,i3⟩:=appl_bd (T:=T) (e:=e) (T.length+1) a0 s0;rw [h1] at i1 i2 i3
  have b1:Bd T s s1 a.length:=⟨by have:=b0.1;simp only at this i1;omega,fun q=>i2 (b0.2 q)⟩
  split
  .rename_i hc
   split;rename_i b s2 h2;have b2:=ih (advS s1);rw [h2] at b2
   refine ((b1.trans (ve hc (xa (l:=[42]) (by simp)))).trans b2).le ?_
   show (ty1 _ [a,b]).length<=a.length+1+b.length;rw [UA];omega
  .exact b1
theorem tyStep_bd(s:PS):Bd T s (wB T e R s).2 (wB T e R s).1.length:=by
 unfold wB;split
 .split
  rename_i a s1 h1;have b1:=Vz hR (e:=e) (T.length+1) s;rw [h1] at b1
  split
  .rename_i hc
   split;rename_i b s2 h2;have b2:=hR (advS s1);rw [h2] at b2
   refine ((b1.trans (ve hc (xa (l:=[45,62]) (by simp)))).trans b2).le ?_
   show (ty1 _ [a,b]).length<=a.length+1+b.length;rw [UA];omega
  .exact b1
 .exact Bd.refl s
end
theorem vJ(s:PS)(c:Int):(xG T e s c).vars=s.vars:=by unfold xG;split<;>rfl
theorem zO(s:PS)(x:ByteArray):(xf T e s x).vars=s.vars:=by unfold xf;split;rfl;exact vJ _ _
theorem zc(s:PS)(k:Int):(xt T e s k).2.vars=s.vars:=by unfold xt;split;rfl;exact vJ _ _
theorem deep_vars(s:PS)(b:Bool):(wl T e s b).vars=s.vars:=by unfold wl;split<;>exact vJ _ _
theorem vU(s:PS):(advS s).vars=s.vars:=rfl
section
variable {R:PS->List TyI×PS} (hR:∀ s,(R s).2.vars=s.vars)
include hR
theorem Y2(s:PS):(yr T e R s).2.vars=s.vars:=by
 unfold yr;split
 .split
  .rfl
  .exact vJ _ _
 .split
  .rfl
  .split
   rename_i a s1 h1;have b1:=hR (xf T e s (⟨#[40]⟩:ByteArray));rw [h1,zO] at b1
   split
   .split
    rename_i b s2 h2;have b2:=hR (advS s1);rw [h2,vU] at b2
    split;rename_i nm s3 h3;have b3:=zc (T:=T) (e:=e) (xf T e s2 (⟨#[41]⟩:ByteArray)) 3;rw [h3,zO] at b3
    exact b3.trans (b2.trans b1)
   .exact (zO _ _).trans b1
omit hR in
theorem ZB(n:Nat):∀ (a:List TyI) (s:PS),(yS T e n a s).2.vars=s.vars:=by
 induction n with
 | zero=>intro a s;rfl
 | succ n ih=>
  intro a s;unfold yS;split
  .exact ih _ _
  .rfl
theorem Wb(n:Nat):∀ s,(y7 T e R n s).2.vars=s.vars:=by
 induction n with
 | zero=>intro s;rfl
 | succ n ih=>
  intro s;unfold y7;split;rename_i a0 s0 h0;have b0:=Y2 hR (T:=T) (e:=e) s;rw [h0] at b0
  split;rename_i a s1 h1;have b1:=ZB (T:=T) (e:=e) (T.length+1) a0 s0;rw [h1] at b1
  split
  .split
   rename_i b s2 h2;have b2:=ih (advS s1);rw [h2] at b2
   exact b2.trans (b1.trans b0)
  .exact b1.trans b0
theorem xbg(s:PS):(wB T e R s).2.vars=s.vars:=by
 unfold wB;split
 .split
  rename_i a s1 h1;have b1:=Wb hR (T:=T) (e:=e) (T.length+1) s;rw [h1] at b1
  split
  .split
   rename_i b s2 h2;have b2:=hR (advS s1);rw [h2] at b2
   exact b2.trans b1
  .exact b1
 .rfl
end
theorem VJ(k:Nat):∀ s,(tyF T e k s).2.vars=s.vars:=by
 induction k with
 | zero=>
  intro s;unfold tyF;split
  .exact deep_vars s _
  .rfl
 | succ k ih=>intro s;exact xbg ih s
theorem ty_bd(k:Nat):∀ s,Bd T s (tyF T e k s).2 (tyF T e k s).1.length:=by
 induction k with
 | zero=>
  intro s;unfold tyF;split
  .exact deep_bd s _
  .exact Bd.refl s
 | succ k ih=>intro s;exact tyStep_bd ih s
theorem UX(s:PS):Bd T s (conS T e s).2 0:=by
 unfold conS;split;rename_i nm s1 h1;have b1:=vD (T:=T) (e:=e) s (k:=4) (by decide)
 rw [h1] at b1
 split
 .rename_i hc
  split;rename_i a s2 h2;have b2:=ty_bd (T:=T) (e:=e) 101 (advS s1);rw [h2] at b2
  exact ((b1.trans (ve hc (xa (l:=[111,102]) (by simp)))).trans b2).le (Nat.zero_le _)
 .exact b1
theorem Q5(s:PS):(conS T e s).2.vars=s.vars:=by
 unfold conS;split;rename_i nm s1 h1;have b1:=zc (T:=T) (e:=e) s 4;rw [h1] at b1
 split
 .split
  rename_i a s2 h2;have b2:=VJ (T:=T) (e:=e) 101 (advS s1);rw [h2] at b2
  exact b2.trans b1
 .exact b1
theorem con_arg(s:PS):(conS T e s).1.arg.length<=(conS T e s).2.i/\((conS T e s).1.has=false->(conS T e s).1.arg=[]):=by
 unfold conS;split;rename_i nm s1 h1;split
 .split
  rename_i a s2 h2;have b2:=ty_bd (T:=T) (e:=e) 101 (advS s1);rw [h2] at b2
  exact ⟨by have:=b2.1;show a.length<=s2.i;simp only at this;omega,fun h=>by cases h⟩
 .exact ⟨Nat.zero_le _,fun _=>rfl⟩
theorem consF1_bd(n:Nat):∀ (l:List MCon) (s:PS),Bd T s (yD T e n l s).2 0:=by
 induction n with
 | zero=>intro l s;exact Bd.refl s
 | succ n ih=>
  intro l s;unfold yD;split
  .split
   rename_i c s1 h1;have b1:=UX (T:=T) (e:=e) s;rw [h1] at b1
   split
   .rename_i hc
    exact ((b1.trans (ve hc (xa (l:=[124]) (by simp)))).trans (ih _ _)).le (Nat.zero_le _)
   .exact b1
  .exact Bd.refl s
theorem Vp(s:PS):Bd T s (yj T e s).2 0/\(yj T e s).2.vars.length<=2:=by
 unfold yj;have n0:Bd T s ⟨s.i,s.code,s.at_,[],s.seen⟩ 0:=⟨Nat.le_refl _,fun h=>h⟩
 have chg:∀ (q:PS) (v:List Int),Bd T q ⟨q.i,q.code,q.at_,v,q.seen⟩ 0:=fun q v=>⟨Nat.le_refl _,fun h=>h⟩
 simp only;split
 .rename_i hc
  refine ⟨?_,by show (xt T e _ 3).2.vars.length<=2;rw [zc];exact Nat.le_refl _⟩
  have b1:=ve hc (xa (l:=[40]) (by simp))
  have b2:=vD (T:=T) (e:=e) (advS ⟨s.i,s.code,s.at_,[],s.seen⟩) (k:=5) (by decide)
  have b3:=ui (T:=T) (e:=e) (xt T e (advS ⟨s.i,s.code,s.at_,[],s.seen⟩) 5).2 (xa (l:=[44]) (by simp))
  have b13:=((n0.trans b1).trans b2).trans b3;have b4:∀ (q:PS) (p:Prop) [Decidable p],Bd T q (if p then xG T e q 7 else q) 0:=fun q p _=>by
   split
   .exact X4 _ _
   .exact Bd.refl _
  have b14:=b13.trans (b4 _ ((tokS T e (xf T e (xt T e (advS ⟨s.i,s.code,s.at_,[],s.seen⟩) 5).2 (⟨#[44]⟩:ByteArray))).kind=5/\(tokS T e (xf T e (xt T e (advS ⟨s.i,s.code,s.at_,[],s.seen⟩) 5).2 (⟨#[44]⟩:ByteArray))).n=(tokS T e (advS ⟨s.i,s.code,s.at_,[],s.seen⟩)).n));have b15:=b14.trans (vD (T:=T) (e:=e) _ (k:=5) (by decide))
  have b16:=b15.trans (ui (T:=T) (e:=e) _ (xa (l:=[41]) (by simp)))
  have b17:=b16.trans (chg _ [(tokS T e (advS ⟨s.i,s.code,s.at_,[],s.seen⟩)).n,(tokS T e (xf T e (xt T e (advS ⟨s.i,s.code,s.at_,[],s.seen⟩) 5).2 (⟨#[44]⟩:ByteArray))).n]);exact (b17.trans (vD (T:=T) (e:=e) _ (k:=3) (by decide))).le (Nat.zero_le _)
 .split
  .rename_i h5
   refine ⟨?_,by show (xt T e _ 3).2.vars.length<=2;rw [zc];show 1<=2;omega⟩
   have b1:=Wn h5 (by decide)
   have b2:Bd T s ⟨s.i+1,s.code,s.at_,[(tokS T e ⟨s.i,s.code,s.at_,[],s.seen⟩).n],s.seen⟩ 1:=⟨b1.1,b1.2⟩;exact (b2.trans (vD (T:=T) (e:=e) _ (k:=3) (by decide))).le (Nat.zero_le _)
  .refine ⟨?_,by show (xt T e _ 3).2.vars.length<=2;rw [zc];exact Nat.zero_le _⟩
   exact (n0.trans (vD (T:=T) (e:=e) _ (k:=3) (by decide))).le (Nat.zero_le _)
theorem type_bd(s:PS):Bd T s (wc T e s).2 0:=by
 unfold wc;split;rename_i t s1 h1;have b1:=(Vp (T:=T) (e:=e) s).1;rw [h1] at b1
 split;rename_i l s2 h2;have b2:=consF1_bd (T:=T) (e:=e) (T.length+1) [] (xf T e s1 (⟨#[61]⟩:ByteArray));rw [h2] at b2
 exact (((b1.trans (ui (T:=T) (e:=e) _ (xa (l:=[61]) (by simp)))).trans b2).trans (ui (T:=T) (e:=e) _ (xa (l:=[59]) (by simp)))).le (Nat.zero_le _)
end
section
variable {T:List MTok} {e:Int}
def Mo(T:List MTok)(s s':PS):Prop:=s.i<=s'.i/\(s.i<=T.length->s'.i<=T.length)/\(s.seen.length<=s.i->s'.seen.length<=s'.i)/\(s'.code=0->s.code=0)
theorem Mo.refl(s:PS):Mo T s s:=⟨Nat.le_refl _,fun h=>h,fun h=>h,fun h=>h⟩
theorem Mo.trans{s s' s'':PS}(h:Mo T s s')(h':Mo T s' s''):Mo T s s'':=⟨Nat.le_trans h.1 h'.1,fun q=>h'.2.1 (h.2.1 q),fun q=>h'.2.2.1 (h.2.2.1 q),fun q=>h.2.2.2 (h'.2.2.2 q)⟩
theorem Mo.fault(s:PS)(c:Int):Mo T s (xG T e s c):=by
 unfold xG;split
 .rename_i h;exact ⟨Nat.le_refl _,fun h=>h,fun h=>h,fun _=>h⟩
 .exact Mo.refl s
theorem Mo.adv{s:PS}(h:s.i<T.length):Mo T s (advS s):=⟨Nat.le_succ _,fun _=>h,fun q=>Nat.le_succ_of_le q,fun q=>q⟩
theorem Mo.advS{s:PS}{x:ByteArray}(h:isS T e s x=true)(hx:x.toList≠[]):Mo T s (advS s):=Mo.adv (xA h hx).2
theorem Mo.advK{s:PS}{k:Int}(h:(tokS T e s).kind=k)(hk:k≠0):Mo T s (Go.Proofs.YtgcdbmcoendcdaaGreat.advS s):=Mo.adv (xS (by rw [h];exact hk)).2
theorem Mo.take(s:PS){x:ByteArray}(hx:x.toList≠[]):Mo T s (xf T e s x):=by
 unfold xf;split
 .rename_i h;exact Mo.advS h hx
 .exact Mo.fault s 7
theorem Mo.word(s:PS){k:Int}(hk:k≠0):Mo T s (xt T e s k).2:=by
 unfold xt;split
 .rename_i h;exact Mo.advK h hk
 .exact Mo.fault s 7
theorem Mo.deep(s:PS)(b:Bool):Mo T s (wl T e s b):=by unfold wl;split<;>exact Mo.fault _ _
theorem Mo.push{s:PS}(h:s.i<T.length)(x:ByteArray):Mo T s (pushS s x):=⟨Nat.le_succ _,fun _=>h,fun q=>by show (s.seen++[x]).length<=s.i+1;rw [List.length_append];simpa using q,fun q=>q⟩
theorem Mo.unseen(s:PS):Mo T s (wh s):=⟨Nat.le_refl _,fun h=>h,fun _=>Nat.zero_le _,fun q=>q⟩
theorem xK(s:PS):(advS s).i=s.i+1:=rfl
theorem YT(k n:Int)(s:ByteArray)(l:List PT):(pN k n s l).size=1+sizeL l:=by unfold pN;rw [size_mk]
theorem yA(k a:Int)(s:ByteArray)(l:List ET):(eN k a s l).size=1+sizeL l:=by unfold eN;rw [size_mk]
theorem sz1{α:Type}(a:Arb α):sizeL [a]=a.size:=by rw [sizeL_cons,sizeL_nil,Nat.add_zero]
theorem sz2{α:Type}(a b:Arb α):sizeL [a,b]=a.size+b.size:=by rw [sizeL_cons,sz1]
theorem sz3{α:Type}(a b c:Arb α):sizeL [a,b,c]=a.size+b.size+c.size:=by rw [sizeL_cons,sz2,Nat.add_assoc]
def PB(T:List MTok)(s:PS)(r:PT×PS):Prop:=Mo T s r.2/\r.1.size+3*s.i<=3*r.2.i+1
def EB(T:List MTok)(s:PS)(r:ET×PS):Prop:=Mo T s r.2/\r.1.size+6*s.i<=6*r.2.i+1
theorem PB.leaf{s s':PS}(h:Mo T s s')(k n:Int)(x:ByteArray):PB T s (pN k n x [],s'):=⟨h,by have:=h.1;rw [YT,sizeL_nil];simp only;omega⟩
theorem PB.p0{s s':PS}(h:Mo T s s'):PB T s (P0,s'):=PB.leaf h 0 0 nS
section
variable {R:PS->PT×PS} (hR:∀ s,PB T s (R s))
include hR
omit hR in
theorem iteP{c:Prop} [Decidable c] {s:PS}{a b:PT×PS}(h1:c->PB T s a)(h2:¬ c->PB T s b):PB T s (if c then a else b):=by
 by_cases h:c
 .rw [if_pos h];exact h1 h
 .rw [if_neg h];exact h2 h
theorem patom_b(n:Nat):∀ s,PB T s (z7 T e R n s):=by
 induction n with
 | zero=>intro s;exact PB.p0 (Mo.refl s)
 | succ n ih=>
  intro s;rw [z7];refine iteP (fun h3=>iteP (fun _=>PB.p0 (Mo.fault s 8)) (fun _=>PB.leaf (Mo.push (xS (by rw [h3];decide)).2 _) _ _ _)) (fun _=>?_)
  refine iteP (fun h1=>PB.leaf (Mo.advK h1 (by decide)) _ _ _) (fun _=>?_)
  refine iteP (fun h4=>?_) (fun _=>?_)
  .have m1:=Mo.advK h4 (by decide)
   refine iteP (fun _=>?_) (fun _=>PB.leaf m1 _ _ _)
   have b:=ih (advS s);rcases h:z7 T e R n (advS s) with ⟨a,s1⟩
   rw [h] at b
   obtain ⟨b1,b2⟩:=b;refine ⟨m1.trans b1,?_⟩;have q1:=b1.1;rw [xK] at b2 q1
   show (pN _ _ _ _).size+3*s.i<=3*s1.i+1;rw [YT,sz1];simp only at b2 q1
   omega
  refine iteP (fun h=>PB.leaf (Mo.advS h (xa (l:=[95]) (by simp))) _ _ _) (fun _=>?_)
  refine iteP (fun h=>PB.leaf (Mo.advS h (xa (l:=[116,114,117,101]) (by simp))) _ _ _) (fun _=>?_)
  refine iteP (fun h=>PB.leaf (Mo.advS h (xa (l:=[102,97,108,115,101]) (by simp))) _ _ _) (fun _=>?_)
  refine iteP (fun h=>PB.leaf ((Mo.advS h (xa (l:=[91]) (by simp))).trans (Mo.take _ (xa (l:=[93]) (by simp)))) _ _ _) (fun _=>?_)
  refine iteP (fun h=>PB.leaf ((Mo.advS h (xa (l:=[45]) (by simp))).trans (Mo.word _ (by decide))) _ _ _) (fun _=>?_)
  refine iteP (fun h=>?_) (fun _=>PB.p0 (Mo.fault s 7))
  have m1:=Mo.advS h (xa (l:=[40]) (by simp))
  refine iteP (fun h2=>PB.leaf (m1.trans (Mo.advS h2 (xa (l:=[41]) (by simp)))) _ _ _) (fun _=>?_)
  have b:=hR (advS s);rcases h1:R (advS s) with ⟨a,s1⟩
  rw [h1] at b
  obtain ⟨b1,b2⟩:=b;have q1:=b1.1;rw [xK] at b2 q1
  refine iteP (fun h2=>?_) (fun _=>?_)
  .have c:=hR (advS s1)
   rcases h3:R (advS s1) with ⟨b',s2⟩
   rw [h3] at c
   obtain ⟨c1,c2⟩:=c;have q2:=c1.1;rw [xK] at c2 q2
   have t:=Mo.take (T:=T) (e:=e) s2 (xa (l:=[41]) (by simp))
   refine ⟨((m1.trans b1).trans ((Mo.advS h2 (xa (l:=[44]) (by simp))).trans c1)).trans t,?_⟩
   have:=t.1;show (pN _ _ _ _).size+3*s.i<=3*(xf T e s2 (⟨#[41]⟩:ByteArray)).i+1;rw [YT,sz2];simp only at *
   omega
  .have t:=Mo.take (T:=T) (e:=e) s1 (xa (l:=[41]) (by simp))
   refine ⟨(m1.trans b1).trans t,?_⟩;have:=t.1;simp only at *
   omega
theorem patStep_b(s:PS):PB T s (uE T e R s):=by
 unfold uE;split
 .split
  rename_i a s1 h1;have b:=patom_b hR (e:=e) (T.length+1) s;rw [h1] at b
  split
  .rename_i h2
   split;rename_i b' s2 h3;have c:=hR (advS s1);rw [h3] at c
   obtain ⟨b1,b2⟩:=b;obtain ⟨c1,c2⟩:=c;rw [xK] at c2
   refine ⟨(b1.trans (Mo.advS h2 (xa (l:=[58,58]) (by simp)))).trans c1,?_⟩
   have q1:=c1.1;rw [xK] at q1
   have:=b1.1;show (pN _ _ _ _).size+3*s.i<=3*s2.i+1;rw [YT,sz1,YT,sz2];simp only at *
   omega
  .exact b
 .exact PB.p0 (Mo.refl s)
end
theorem pat_b(k:Nat):∀ s,PB T s (patF T e k s):=by
 induction k with
 | zero=>
  intro s;unfold patF;split
  .split
   .exact PB.p0 (Mo.fault s 8)
   .exact PB.p0 (Mo.deep s _)
  .exact PB.p0 (Mo.refl s)
 | succ k ih=>intro s;exact patStep_b ih s
theorem EB.leaf{s s':PS}(h:Mo T s s')(k a:Int)(x:ByteArray):EB T s (eN k a x [],s'):=⟨h,by have:=h.1;rw [yA,sizeL_nil];simp only;omega⟩
theorem EB.e0{s s':PS}(h:Mo T s s'):EB T s (E0,s'):=EB.leaf h 0 0 nS
section
variable {R:PS->ET×PS} (hR:∀ s,EB T s (R s))
include hR
theorem YM(s:PS):EB T s (zm T e R s):=by
 unfold zm;split
 .rename_i hb
  have m1:Mo T s (advS s):=Mo.adv (xS (Xr hb)).2;split
  .exact ⟨m1,by have:=m1.1;show (Arb.mk _ _).size+_<=_;rw [size_mk,sizeL_nil];simp only;omega⟩
  .split
   .exact EB.leaf m1 _ _ _
   .split
    .exact EB.leaf m1 _ _ _
    .split
     .exact EB.leaf m1 _ _ _
     .split
      .exact EB.leaf (m1.trans (Mo.take _ (xa (l:=[93]) (by simp)))) _ _ _
      .split
       .split
        .rename_i h2;exact EB.leaf (m1.trans (Mo.advS h2 (xa (l:=[41]) (by simp)))) _ _ _
        .split
         rename_i a s1 h1;have b:=hR (advS s);rw [h1] at b
         obtain ⟨b1,b2⟩:=b;rw [xK] at b2
         split
         .rename_i h2
          split;rename_i b' s2 h3;have c:=hR (advS s1);rw [h3] at c
          obtain ⟨c1,c2⟩:=c;rw [xK] at c2
          have t:=Mo.take (T:=T) (e:=e) s2 (xa (l:=[41]) (by simp))
          refine ⟨((m1.trans b1).trans ((Mo.advS h2 (xa (l:=[44]) (by simp))).trans c1)).trans t,?_⟩
          have:=t.1;have:=c1.1;have:=b1.1;show (eN _ _ _ _).size+_<=_;rw [yA,sz2];simp only at *
          omega
         .have t:=Mo.take (T:=T) (e:=e) s1 (xa (l:=[41]) (by simp))
          refine ⟨(m1.trans b1).trans t,?_⟩;have:=t.1;have:=b1.1;simp only at *
          omega
       .exact EB.leaf m1 _ _ _
 .exact EB.e0 (Mo.fault s 7)
theorem QU{s:PS}(h:begT (tokS T e s)=true):(zm T e R s).1.size+6*s.i+5<=6*(zm T e R s).2.i/\s.i<(zm T e R s).2.i:=by
 have m1:Mo T s (advS s):=Mo.adv (xS (Xr h)).2;have lf:∀ (s':PS) (t:ET),Mo T (advS s) s'->t.size=1->t.size+6*s.i+5<=6*s'.i/\s.i<s'.i:=fun s' t hm ht=>by
  have:=hm.1;rw [xK] at this
  omega
 have one:∀ k a x,(eN k a x []).size=1:=fun k a x=>by rw [yA,sizeL_nil]
 unfold zm;rw [if_pos h];split
 .exact lf _ _ (Mo.refl _) (by show (Arb.mk _ _).size=1;rw [size_mk,sizeL_nil])
 .split
  .exact lf _ _ (Mo.refl _) (one _ _ _)
  .split
   .exact lf _ _ (Mo.refl _) (one _ _ _)
   .split
    .exact lf _ _ (Mo.refl _) (one _ _ _)
    .split
     .exact lf _ _ (Mo.take _ (xa (l:=[93]) (by simp))) (one _ _ _)
     .split
      .split
       .rename_i h2;exact lf _ _ (Mo.advS h2 (xa (l:=[41]) (by simp))) (one _ _ _)
       .split
        rename_i a s1 h1;have b:=hR (advS s);rw [h1] at b
        obtain ⟨b1,b2⟩:=b;have bb:=b1.1;rw [xK] at b2 bb
        split
        .rename_i h2
         split;rename_i b' s2 h3;have c:=hR (advS s1);rw [h3] at c
         obtain ⟨c1,c2⟩:=c;have cc:=c1.1;rw [xK] at c2 cc
         have t:=(Mo.take (T:=T) (e:=e) s2 (xa (l:=[41]) (by simp))).1
         show (eN _ _ _ _).size+_+_<=_/\_;rw [yA,sz2];simp only at *
         omega
        .have t:=(Mo.take (T:=T) (e:=e) s1 (xa (l:=[41]) (by simp))).1
         simp only at *
         omega
      .exact lf _ _ (Mo.refl _) (one _ _ _)
omit hR in
theorem kidT_size(a b:ET):(kidT a b).size=1+b.size:=by unfold kidT;rw [size_mk,sz1]
theorem app_b(n:Nat):∀ (bare:Bool) (a:ET) (s:PS),Mo T s (appF T e R n bare a s).2/\(appF T e R n bare a s).1.size+6*s.i<=6*(appF T e R n bare a s).2.i+a.size:=by
 induction n with
 | zero=>intro bare a s;exact ⟨Mo.refl s,by show a.size+6*s.i<=6*s.i+a.size;omega⟩
 | succ n ih=>
  intro bare a s;unfold appF;split
  .rename_i h
   split;rename_i b s1 h1;have m:=YM hR (e:=e) s;have q:=QU hR h.2;rw [h1] at m q
   obtain ⟨i1,i2⟩:=ih false (if bare=true then kidT a b else eN 6 (tokS T e s).at_ nS [a,b]) s1
   refine ⟨m.1.trans i1,?_⟩;have hz:(if bare=true then kidT a b else eN 6 (tokS T e s).at_ nS [a,b]).size<=1+a.size+b.size:=by
    split
    .rw [kidT_size];omega
    .rw [yA,sz2];omega
   simp only at *
   omega
  .exact ⟨Mo.refl s,by show a.size+6*s.i<=6*s.i+a.size;omega⟩
theorem appS_b(s:PS):EB T s (appS T e R s):=by
 unfold appS;split;rename_i a s1 h1;have m:=YM hR (e:=e) s;rw [h1] at m
 obtain ⟨i1,i2⟩:=app_b hR (e:=e) (T.length+1) (decide ((tokS T e s).kind=4)) a s1;exact ⟨m.1.trans i1,by have:=m.2;simp only at *;omega⟩
theorem un_b(n:Nat):∀ s,EB T s (unF T e R n s):=by
 induction n with
 | zero=>intro s;exact EB.e0 (Mo.refl s)
 | succ n ih=>
  intro s;have st:∀ (x:ByteArray) (f:ET->ET),isS T e s x=true->x.toList≠[]->(∀ t,(f t).size<=t.size+3)->EB T s (match unF T e R n (advS s) with|(a,s1)=>(f a,s1)):=fun x f h hx hf=>by
   split;rename_i a s1 h1;have b:=ih (advS s);rw [h1] at b
   obtain ⟨b1,b2⟩:=b;rw [xK] at b2
   refine ⟨(Mo.advS h hx).trans b1,?_⟩;have:=hf a;have:=b1.1;simp only at *
   omega
  have one:∀ k a x (t:ET),(eN k a x [t]).size<=t.size+3:=fun k a x t=>by rw [yA,sz1];omega
  unfold unF;split
  .rename_i h;exact st _ _ h (xa (l:=[114,97,105,115,101]) (by simp)) (one _ _ _)
  .split
   .rename_i h;exact st _ _ h (xa (l:=[114,101,102]) (by simp)) (one _ _ _)
   .split
    .rename_i h;exact st _ _ h (xa (l:=[33]) (by simp)) (one _ _ _)
    .split
     .rename_i h;exact st _ (fun a=>eN 10 (tokS T e s).at_ (⟨#[45]⟩:ByteArray) [eN 1 (tokS T e s).at_ nS [],a]) h (xa (l:=[45]) (by simp)) (fun t=>by rw [yA,sz2,yA,sizeL_nil];omega)
     .exact appS_b hR s
omit hR in
theorem left_b{L:List ByteArray}(hL:∀ x∈L,x.toList≠[]){Q:PS->ET×PS}(hQ:∀ s,EB T s (Q s))(n:Nat):∀ (a:ET) (s:PS),Mo T s (zd T e L Q n a s).2/\(zd T e L Q n a s).1.size+6*s.i<=6*(zd T e L Q n a s).2.i+a.size:=by
 induction n with
 | zero=>intro a s;exact ⟨Mo.refl s,by show a.size+6*s.i<=6*s.i+a.size;omega⟩
 | succ n ih=>
  intro a s;unfold zd;split
  .rename_i h
   have m1:Mo T s (advS s):=Mo.adv (xS (wX hL h.2)).2;split;rename_i b s1 h1;have q:=hQ (advS s);rw [h1] at q
   obtain ⟨q1,q2⟩:=q;rw [xK] at q2
   obtain ⟨i1,i2⟩:=ih (eN 10 (tokS T e s).at_ (tokS T e s).s [a,b]) s1;refine ⟨(m1.trans q1).trans i1,?_⟩;rw [yA,sz2] at i2
   simp only at *
   omega
  .exact ⟨Mo.refl s,by show a.size+6*s.i<=6*s.i+a.size;omega⟩
theorem XW(s:PS):EB T s (wj T e R s):=by
 unfold wj;split;rename_i a s1 h1;have m:=un_b hR (e:=e) (T.length+1) s;rw [h1] at m
 obtain ⟨i1,i2⟩:=left_b (T:=T) (e:=e) (L:=[(⟨#[42]⟩:ByteArray),(⟨#[47]⟩:ByteArray),(⟨#[37]⟩:ByteArray)]) (by simp only [List.mem_cons,List.not_mem_nil,or_false,forall_eq_or_imp,forall_eq];exact ⟨xa (l:=[42]) (by simp),xa (l:=[47]) (by simp),xa (l:=[37]) (by simp)⟩) (un_b hR (T.length+1)) (T.length+1) a s1
 exact ⟨m.1.trans i1,by have:=m.2;simp only at *;omega⟩
theorem Vw(s:PS):EB T s (uu T e R s):=by
 unfold uu;split;rename_i a s1 h1;have m:=XW hR (e:=e) s;rw [h1] at m
 obtain ⟨i1,i2⟩:=left_b (T:=T) (e:=e) (L:=[(⟨#[43]⟩:ByteArray),(⟨#[45]⟩:ByteArray),(⟨#[94]⟩:ByteArray)]) (by simp only [List.mem_cons,List.not_mem_nil,or_false,forall_eq_or_imp,forall_eq];exact ⟨xa (l:=[43]) (by simp),xa (l:=[45]) (by simp),xa (l:=[94]) (by simp)⟩) (XW hR) (T.length+1) a s1
 exact ⟨m.1.trans i1,by have:=m.2;simp only at *;omega⟩
theorem ZN(n:Nat):∀ s,EB T s (wt T e R n s):=by
 induction n with
 | zero=>intro s;exact EB.e0 (Mo.refl s)
 | succ n ih=>
  intro s;unfold wt;split;rename_i a s1 h1;have m:=Vw hR (e:=e) s;rw [h1] at m
  split
  .rename_i h2
   split;rename_i b s2 h3;have q:=ih (advS s1);rw [h3] at q
   obtain ⟨q1,q2⟩:=q;rw [xK] at q2
   refine ⟨(m.1.trans (Mo.advS h2 (xa (l:=[58,58]) (by simp)))).trans q1,?_⟩
   have:=m.2;unfold consT;show (eN _ _ _ _).size+_<=_;rw [yA,sz1,yA,sz2];simp only at *
   omega
  .exact m
theorem cmp_b(s:PS):EB T s (cmpS T e R s):=by
 unfold cmpS;split;rename_i a s1 h1;have m:=ZN hR (e:=e) (T.length+1) s;rw [h1] at m
 split
 .rename_i h2
  have m1:Mo T s1 (advS s1):=Mo.adv (xS (wX (by simp only [List.mem_cons,List.not_mem_nil,or_false,forall_eq_or_imp,forall_eq];exact ⟨xa (l:=[61]) (by simp),xa (l:=[60,62]) (by simp),xa (l:=[60]) (by simp),xa (l:=[60,61]) (by simp)⟩) h2)).2
  split;rename_i b s2 h3;have q:=ZN hR (e:=e) (T.length+1) (advS s1);rw [h3] at q
  obtain ⟨q1,q2⟩:=q;rw [xK] at q2
  refine ⟨(m.1.trans m1).trans q1,?_⟩;have:=m.2;show (eN _ _ _ _).size+_<=_;rw [yA,sz2];simp only at *
  omega
 .exact m
theorem set_b(n:Nat):∀ s,EB T s (setF T e R n s):=by
 induction n with
 | zero=>intro s;exact EB.e0 (Mo.refl s)
 | succ n ih=>
  intro s;unfold setF;split;rename_i a s1 h1;have m:=cmp_b hR (e:=e) s;rw [h1] at m
  split
  .rename_i h2
   split;rename_i b s2 h3;have q:=ih (advS s1);rw [h3] at q
   obtain ⟨q1,q2⟩:=q;rw [xK] at q2
   refine ⟨(m.1.trans (Mo.advS h2 (xa (l:=[58,61]) (by simp)))).trans q1,?_⟩
   have:=m.2;show (eN _ _ _ _).size+_<=_;rw [yA,sz2];simp only at *
   omega
  .exact m
theorem arms_b(n:Nat):∀ (qs:List MPat) (l:List ET) (s:PS),Mo T s (yZ T e R n qs l s).2.2/\sizeL (yZ T e R n qs l s).2.1+6*s.i<=6*(yZ T e R n qs l s).2.2.i+1+sizeL l:=by
 induction n with
 | zero=>intro qs l s;exact ⟨Mo.refl s,by show sizeL l+6*s.i<=6*s.i+1+sizeL l;omega⟩
 | succ n ih=>
  intro qs l s;unfold yZ;split
  .split
   rename_i p s1 h1;have m:=(pat_b (T:=T) (e:=e) 101 (wh s)).1;rw [h1] at m
   split;rename_i b s2 h2;have t:=Mo.take (T:=T) (e:=e) s1 (xa (l:=[45,62]) (by simp))
   have q:=hR (xf T e s1 (⟨#[45,62]⟩:ByteArray));rw [h2] at q
   have mm:=(((Mo.unseen (T:=T) s).trans m).trans t).trans q.1;have g1:=mm.1;have g2:=((Mo.unseen (T:=T) s).trans m).trans t;have g3:=g2.1;split
   .rename_i h3
    obtain ⟨i1,i2⟩:=ih (qs++[layP p]) (l++[b]) (advS s2);refine ⟨(mm.trans (Mo.advS h3 (xa (l:=[124]) (by simp)))).trans i1,?_⟩
    rw [sizeL_app,sz1,xK] at i2
    have:=q.2;simp only at *
    omega
   .refine ⟨mm,?_⟩
    have:=q.2;show sizeL (l++[b])+_<=_;rw [sizeL_app,sz1];simp only at *
    omega
  .exact ⟨Mo.refl s,by show sizeL l+6*s.i<=6*s.i+1+sizeL l;omega⟩
theorem match_b(at_:Int)(s:PS):Mo T s (wM T e R at_ s).2/\(wM T e R at_ s).1.size+6*s.i<=6*(wM T e R at_ s).2.i+3:=by
 unfold wM;split;rename_i a s1 h1;have m:=hR s;rw [h1] at m
 split;rename_i qs l s2 h2;have t1:=Mo.take (T:=T) (e:=e) s1 (xa (l:=[119,105,116,104]) (by simp))
 have q:=arms_b hR (e:=e) (T.length+1) [] [a] (xf T e s1 (⟨#[119,105,116,104]⟩:ByteArray));rw [h2] at q
 have t2:=Mo.take (T:=T) (e:=e) s2 (xa (l:=[101,110,100]) (by simp))
 refine ⟨((m.1.trans t1).trans q.1).trans t2,?_⟩;have g1:=m.2;have g2:=q.2;have g3:=t1.1;have g4:=t2.1;rw [sz1] at g2
 show (Arb.mk _ _).size+_<=_;rw [size_mk];simp only at *
 omega
omit hR in
theorem iteE{c:Prop} [Decidable c] {s:PS}{a b:ET×PS}(h1:c->EB T s a)(h2:¬ c->EB T s b):EB T s (if c then a else b):=by
 by_cases h:c
 .rw [if_pos h];exact h1 h
 .rw [if_neg h];exact h2 h
omit hR in
theorem ux{s s1:PS}{k:Int}{x:ByteArray}(hk:k≠0)(h:xt T e s k=(x,s1)):Mo T s s1:=by
 have:=Mo.word (T:=T) (e:=e) s hk;rw [h] at this;exact this
theorem xbK(s:PS):EB T s (wW T e R s):=by
 unfold wW;refine iteE (fun _=>?_) (fun _=>EB.e0 (Mo.refl s))
 refine iteE (fun h=>?_) (fun _=>?_)
 .have m0:=Mo.advS h (xa (l:=[102,117,110]) (by simp))
  split;rename_i x s1 h1;have m1:=ux (by decide) h1
  have m2:=Mo.take (T:=T) (e:=e) s1 (xa (l:=[45,62]) (by simp))
  split;rename_i b s2 h2;have q:=hR (xf T e s1 (⟨#[45,62]⟩:ByteArray));rw [h2] at q
  refine ⟨((m0.trans m1).trans m2).trans q.1,?_⟩;have g0:=xK s;have g1:=m1.1;have g2:=m2.1;have g3:=q.2;show (eN _ _ _ _).size+_<=_;rw [yA,sz1];simp only at *
  omega
 refine iteE (fun h=>?_) (fun _=>?_)
 .have m0:=Mo.advS h (xa (l:=[108,101,116]) (by simp))
  have g0:=xK s;refine iteE (fun h'=>?_) (fun _=>?_)
  .have m00:=Mo.advS h' (xa (l:=[114,101,99]) (by simp))
   have g00:=xK (advS s);split;rename_i f s1 h1;have m1:=ux (by decide) h1
   split;rename_i x s2 h2;have m2:=ux (by decide) h2
   have m3:=Mo.take (T:=T) (e:=e) s2 (xa (l:=[61]) (by simp))
   split;rename_i a s3 h3;have q3:=hR (xf T e s2 (⟨#[61]⟩:ByteArray));rw [h3] at q3
   have m4:=Mo.take (T:=T) (e:=e) s3 (xa (l:=[105,110]) (by simp))
   split;rename_i b s4 h4;have q4:=hR (xf T e s3 (⟨#[105,110]⟩:ByteArray));rw [h4] at q4
   refine ⟨((((((m0.trans m00).trans m1).trans m2).trans m3).trans q3.1).trans m4).trans q4.1,?_⟩;have g1:=m1.1;have g2:=m2.1;have g3:=m3.1;have g4:=m4.1;have g5:=q3.2;have g6:=q4.2;show (eN _ _ _ _).size+_<=_;rw [yA,sz2,yA,sz1];simp only at *
   omega
  .split
   rename_i x s1 h1;have m1:=ux (by decide) h1
   have m2:=Mo.take (T:=T) (e:=e) s1 (xa (l:=[61]) (by simp))
   split;rename_i a s2 h2;have q3:=hR (xf T e s1 (⟨#[61]⟩:ByteArray));rw [h2] at q3
   have m4:=Mo.take (T:=T) (e:=e) s2 (xa (l:=[105,110]) (by simp))
   split;rename_i b s3 h3;have q4:=hR (xf T e s2 (⟨#[105,110]⟩:ByteArray));rw [h3] at q4
   refine ⟨((((m0.trans m1).trans m2).trans q3.1).trans m4).trans q4.1,?_⟩;have g1:=m1.1;have g2:=m2.1;have g4:=m4.1;have g5:=q3.2;have g6:=q4.2;show (eN _ _ _ _).size+_<=_;rw [yA,sz2];simp only at *
   omega
 refine iteE (fun h=>?_) (fun _=>?_)
 .have m0:=Mo.advS h (xa (l:=[105,102]) (by simp))
  have g0:=xK s;split;rename_i a s1 h1;have q1:=hR (advS s);rw [h1] at q1
  have m2:=Mo.take (T:=T) (e:=e) s1 (xa (l:=[116,104,101,110]) (by simp))
  split;rename_i b s2 h2;have q2:=hR (xf T e s1 (⟨#[116,104,101,110]⟩:ByteArray));rw [h2] at q2
  have m3:=Mo.take (T:=T) (e:=e) s2 (xa (l:=[101,108,115,101]) (by simp))
  split;rename_i d s3 h3;have q3:=hR (xf T e s2 (⟨#[101,108,115,101]⟩:ByteArray));rw [h3] at q3
  refine ⟨((((m0.trans q1.1).trans m2).trans q2.1).trans m3).trans q3.1,?_⟩;have g1:=q1.2;have g2:=m2.1;have g3:=q2.2;have g4:=m3.1;have g5:=q3.2;show (eN _ _ _ _).size+_<=_;rw [yA,sz3];simp only at *
  omega
 refine iteE (fun h=>?_) (fun _=>?_)
 .have m0:=Mo.advS h (xa (l:=[109,97,116,99,104]) (by simp))
  have g0:=xK s;have q:=match_b hR (e:=e) (tokS T e s).at_ (advS s);refine ⟨m0.trans q.1,?_⟩;have:=q.2;omega
 refine iteE (fun h=>?_) (fun _=>?_)
 .have m0:=Mo.advS h (xa (l:=[116,114,121]) (by simp))
  have g0:=xK s;split;rename_i a s1 h1;have q1:=hR (advS s);rw [h1] at q1
  have m2:=Mo.take (T:=T) (e:=e) s1 (xa (l:=[119,105,116,104]) (by simp))
  split;rename_i x s2 h2;have m3:=ux (by decide) h2
  have m4:=Mo.take (T:=T) (e:=e) s2 (xa (l:=[45,62]) (by simp))
  split;rename_i b s3 h3;have q3:=hR (xf T e s2 (⟨#[45,62]⟩:ByteArray));rw [h3] at q3
  have m5:=Mo.take (T:=T) (e:=e) s3 (xa (l:=[101,110,100]) (by simp))
  refine ⟨(((((m0.trans q1.1).trans m2).trans m3).trans m4).trans q3.1).trans m5,?_⟩;have g1:=q1.2;have g2:=m2.1;have g3:=m3.1;have g4:=m4.1;have g5:=q3.2;have g6:=m5.1;show (eN _ _ _ _).size+_<=_;rw [yA,sz2];simp only at *
  omega
 split;rename_i a s1 h1;have m:=set_b hR (e:=e) (T.length+1) s;rw [h1] at m
 refine iteE (fun h=>?_) (fun _=>m)
 have m0:=Mo.advS h (xa (l:=[59]) (by simp))
 have g0:=xK s1;split;rename_i b s2 h2;have q:=hR (advS s1);rw [h2] at q
 refine ⟨(m.1.trans m0).trans q.1,?_⟩;have g1:=m.2;have g2:=q.2;show (eN _ _ _ _).size+_<=_;rw [yA,sz2];simp only at *
 omega
end
theorem U1(k:Nat):∀ s,EB T s (uA T e k s):=by
 induction k with
 | zero=>
  intro s;unfold uA;exact iteE (fun _=>EB.e0 (Mo.deep s _)) (fun _=>EB.e0 (Mo.refl s))
 | succ k ih=>exact fun s=>xbK ih s
end
end
section
open Go.RowKit Go.ChangeShapes Go.WideShapes
structure MIns where
 op:Int
 a:Int
 b:Int
 s:ByteArray
def MIns.enc(x:MIns):List D:=[.s (.int .i64 x.op),.s (.int .i64 x.a),.s (.int .i64 x.b),.s (.string x.s)]
theorem MIns.enc_eq(x:MIns):x.enc=[.s (.int .i64 x.op),.s (.int .i64 x.a),.s (.int .i64 x.b),.s (.string x.s)]:=rfl
abbrev MIns.own(x:MIns):List D:=x.enc
theorem MIns.own_eq(x:MIns):x.own=[.s (.int .i64 x.op),.s (.int .i64 x.a),.s (.int .i64 x.b),.s (.string x.s)]:=rfl
theorem MIns.frz_eq(x:MIns):frzL x.own=x.enc:=by
 simp only [MIns.own_eq,MIns.enc_eq,frzL,frz]
def MIns.ok(x:MIns):Prop:=I64 x.op/\I64 x.a/\I64 x.b/\x.s.size<=maxLen
def MIns.sm(x:MIns):Prop:=x.s.size<=1048576
def MIns.cnt(x:MIns):Nat:=4
theorem MIns.pure(x:MIns):∀ d∈x.own,Pure d:=by
 simp only [MIns.own_eq,List.forall_mem_cons,List.not_mem_nil,false_imp_iff,implies_true,and_true];exact ⟨.s _,.s _,.s _,.s _⟩
theorem MIns.pureS(e k:Nat)(xs:List MIns):Pure (.osl e k (xs.map MIns.own))=True:=eq_true (yI MIns.pure e k xs)
attribute [go_sem] MIns.pureS
theorem MIns.frzS(xs:List MIns):xU (xs.map MIns.own)=xs.map MIns.enc:=yh MIns.frz_eq xs
attribute [go_sem] MIns.frzS
structure MCode where
 ins:List MIns
 pats:List MPat
def MCode.enc(x:MCode):List D:=[.sl 4 (x.ins.map MIns.enc),.sl 1 (x.pats.map MPat.enc)]
theorem MCode.enc_eq(x:MCode):x.enc=[.sl 4 (x.ins.map MIns.enc),.sl 1 (x.pats.map MPat.enc)]:=rfl
def MCode.own(x:MCode):List D:=[.osl 49 4 (x.ins.map MIns.own),.osl 89 1 (x.pats.map MPat.own)]
theorem MCode.own_eq(x:MCode):x.own=[.osl 49 4 (x.ins.map MIns.own),.osl 89 1 (x.pats.map MPat.own)]:=rfl
def MCode.ok(x:MCode):Prop:=(∀ y∈x.ins,y.ok)/\(∀ y∈x.pats,y.ok)
def MCode.sm(x:MCode):Prop:=smS MIns.sm x.ins/\smS MPat.sm x.pats
def MCode.cnt(x:MCode):Nat:=cnts MIns.cnt x.ins+cnts MPat.cnt x.pats
theorem MCode.cnt_eq(x:MCode):x.cnt=cnts MIns.cnt x.ins+cnts MPat.cnt x.pats:=rfl
end
section
def yR(s:ByteArray):Bool:=s.toList==[112,114,105,110,116]||s.toList==[115,97,121]||s.toList==[114,101,97,100]||s.toList==[115,105,122,101]
def xq(op:Int):Bool:=op==8||op==9||op==12||op==13||op==18
def insM(n m:Int)(x:MIns):Bool:=
 if xq x.op then decide (0<=x.a)&&decide (x.a<n)&&(x.b==0)&&x.s.toList.isEmpty
 else if x.op=20 then decide (0<=x.a)&&decide (x.a<m)&&(decide (0<=x.b)&&decide (x.b<n))&&x.s.toList.isEmpty
 else if x.op=6\/x.op=15 then decide (0<=x.a)&&decide (x.a<=3000)&&(x.b==0)&&x.s.toList.isEmpty
 else if x.op=1 then decide (-4611686018427387904<=x.a)&&decide (x.a<=4611686018427387903)&&(x.b==0)&&x.s.toList.isEmpty
 else if x.op=4 then decide (0<=x.a)&&decide (x.a<=1)&&(x.b==0)&&yv x.s x.a.toNat true
 else if x.op=2 then (x.a==0)&&(x.b==0)
 else if x.op=7 then (x.a==0)&&(x.b==0)&&yR x.s
 else if x.op=16 then (x.a==0)&&(x.b==0)&&uF x.s
 else decide (1<=x.op)&&decide (x.op<=25)&&(x.a==0)&&(x.b==0)&&x.s.toList.isEmpty
def wF(c:MCode):Bool:=decide (1<=c.ins.length)&&decide (c.ins.length<=3000)&&(c.pats.all fun q=>patM q.nodes)&&c.ins.all (insM c.ins.length c.pats.length)
end
section
open Go.RowKit
theorem uA9:(⟨#[112,114,105,110,116]⟩:ByteArray).toList=[112,114,105,110,116]:=by kernel_rfl
theorem Yc:(⟨#[115,97,121]⟩:ByteArray).toList=[115,97,121]:=by kernel_rfl
theorem Xc:(⟨#[114,101,97,100]⟩:ByteArray).toList=[114,101,97,100]:=by kernel_rfl
theorem Xd:(⟨#[115,105,122,101]⟩:ByteArray).toList=[115,105,122,101]:=by kernel_rfl
theorem ZI(s:ByteArray)(h:yR s=true):∃ rows,rows.isEmpty=false/\FT 149 [.s (.string s)] (fun r _=>r=.sl 3 rows):=by
 unfold yR at h
 simp only [Bool.or_eq_true,beq_iff_eq] at h
 rcases h with ((h|h)|h)|h
 .refine ⟨[[.s (.int .i64 0),.s (.string ⟨#[45,62]⟩),.s (.int .i64 2)],[.s (.int .i64 0),.s (.string ⟨#[105,110,116]⟩),.s (.int .i64 0)],[.s (.int .i64 0),.s (.string ⟨#[117,110,105,116]⟩),.s (.int .i64 0)]],rfl,FCon.ice ?_⟩
  have e0:(s.toList==[112,114,105,110,116])=true:=by rw [h];decide
  refine FI PM Tryz.func149 Tryz.ntmps149 [] rfl rfl ?_
  (have hWf:=w5 @uA9 @Yc @Xc @Xd @e0;repeat' (first|refine zS ?_|refine zI ?_ ?_|exact zF0|refine zD fun hb=>?_|exact zC|refine zT ?_|fail))
  all_goals rfl
 .refine ⟨[[.s (.int .i64 0),.s (.string ⟨#[45,62]⟩),.s (.int .i64 2)],[.s (.int .i64 0),.s (.string ⟨#[115,116,114,105,110,103]⟩),.s (.int .i64 0)],[.s (.int .i64 0),.s (.string ⟨#[117,110,105,116]⟩),.s (.int .i64 0)]],rfl,FCon.ice ?_⟩
  have e0:(s.toList==[112,114,105,110,116])=false:=by rw [h];decide
  have e1:(s.toList==[115,97,121])=true:=by rw [h];decide
  refine FI PM Tryz.func149 Tryz.ntmps149 [] rfl rfl ?_
  (have hWf:=w6 @uA9 @Yc @Xc @Xd @e0 @e1;repeat' (first|refine zS ?_|refine zI ?_ ?_|exact zF0|refine zD fun hb=>?_|exact zC|refine zT ?_|fail))
  all_goals rfl
 .refine ⟨[[.s (.int .i64 0),.s (.string ⟨#[45,62]⟩),.s (.int .i64 2)],[.s (.int .i64 0),.s (.string ⟨#[117,110,105,116]⟩),.s (.int .i64 0)],[.s (.int .i64 0),.s (.string ⟨#[105,110,116]⟩),.s (.int .i64 0)]],rfl,FCon.ice ?_⟩
  have e0:(s.toList==[112,114,105,110,116])=false:=by rw [h];decide
  have e1:(s.toList==[115,97,121])=false:=by rw [h];decide
  have e2:(s.toList==[114,101,97,100])=true:=by rw [h];decide
  refine FI PM Tryz.func149 Tryz.ntmps149 [] rfl rfl ?_
  (have hWf:=w7 @uA9 @Yc @Xc @Xd @e0 @e1 @e2;repeat' (first|refine zS ?_|refine zI ?_ ?_|exact zF0|refine zD fun hb=>?_|exact zC|refine zT ?_|fail))
  all_goals rfl
 .refine ⟨[[.s (.int .i64 0),.s (.string ⟨#[45,62]⟩),.s (.int .i64 2)],[.s (.int .i64 0),.s (.string ⟨#[115,116,114,105,110,103]⟩),.s (.int .i64 0)],[.s (.int .i64 0),.s (.string ⟨#[105,110,116]⟩),.s (.int .i64 0)]],rfl,FCon.ice ?_⟩
  have e0:(s.toList==[112,114,105,110,116])=false:=by rw [h];decide
  have e1:(s.toList==[115,97,121])=false:=by rw [h];decide
  have e2:(s.toList==[114,101,97,100])=false:=by rw [h];decide
  have e3:(s.toList==[115,105,122,101])=true:=by rw [h];decide
  refine FI PM Tryz.func149 Tryz.ntmps149 [] rfl rfl ?_
  (have hWf:=w8 @uA9 @Yc @Xc @Xd @e0 @e1 @e2 @e3;repeat' (first|refine zS ?_|refine zI ?_ ?_|exact zF0|refine zD fun hb=>?_|exact zC|refine zT ?_|fail))
  all_goals rfl
theorem ZH(s:ByteArray)(h:yR s=false):FT 149 [.s (.string s)] (fun r _=>r=.nil):=by
 unfold yR at h
 simp only [Bool.or_eq_false_iff] at h
 obtain ⟨⟨⟨h1,h2⟩,h3⟩,h4⟩:=h;refine FI PM Tryz.func149 Tryz.ntmps149 [] rfl rfl ?_
 (have hWf:=w8 @uA9 @Yc @Xc @Xd @h1 @h2 @h3 @h4;repeat' (first|refine zS ?_|refine zI ?_ ?_|exact zF0|refine zD fun hb=>?_|exact zC|refine zT ?_|fail))
end
section
open Arb
def eS:ByteArray:=⟨#[]⟩
structure CS where
 ins:List MIns
 pats:List MPat
 lost:Bool
def CS.emit(s:CS)(i:MIns):CS:=⟨s.ins++[i],s.pats,s.lost⟩
def setA(l:List MIns)(k:Nat)(v:Int):List MIns:=match l[k]? with
 | some x=>l.set k ⟨x.op,v,x.b,x.s⟩
 | none=>l
def setB(l:List MIns)(k:Nat)(v:Int):List MIns:=match l[k]? with
 | some x=>l.set k ⟨x.op,x.a,v,x.s⟩
 | none=>l
def CS.here(s:CS)(k:Nat):CS:=⟨setA s.ins k s.ins.length,s.pats,s.lost⟩
abbrev CF:=List ByteArray->CS->CS
structure KF where
 a:EI
 f:CF
 sub:List CF
instance:Inhabited KF:=⟨⟨⟨0,0,0,eS,[]⟩,fun _ s=>s,[]⟩⟩
def idxR(s:ByteArray):List ByteArray->Nat->Option Nat
 | [],_=>none
 | x::l,i=>if x=s then some i else idxR s l (i+1)
def varA(env:List ByteArray)(s:ByteArray):Option Nat:=idxR s env.reverse 0
def zR(x:ByteArray)(env:List ByteArray)(s:CS):CS:=match varA env x with
 | some a=>s.emit ⟨6,a,0,eS⟩
 | none=>⟨s.ins++[⟨7,0,0,x⟩],s.pats,s.lost||!yR x⟩
def yz(op:Int)(s:CS):CS:=(s.emit ⟨op,(s.ins.length:Int)+2,0,eS⟩).emit ⟨12,0,0,eS⟩
def funC(op:Int)(f:CF)(names:List ByteArray)(env:List ByteArray)(s:CS):CS:=((f (env++names) (yz op s)).emit ⟨11,0,0,eS⟩).here (s.ins.length+1)
def pnames(xs:List DPNode):List ByteArray:=(xs.filter fun x=>x.kind==2).map fun x=>x.s
def endI(a:EI)(n:Nat):MIns:=
 if a.kind=6 then ⟨10,0,0,eS⟩ else if a.kind=10 then ⟨16,0,0,a.s⟩ else if a.kind=11 then ⟨5,0,0,eS⟩ else if a.kind=18 then ⟨24,0,0,eS⟩
 else if a.kind=16 then ⟨22,0,0,eS⟩ else if a.kind=17 then ⟨23,0,0,eS⟩ else if a.kind=14 then ⟨17,0,0,eS⟩ else if a.kind=4 then ⟨4,n,0,a.s⟩
 else if a.kind=1 then ⟨1,a.n,0,eS⟩ else if a.kind=2 then ⟨2,0,0,a.s⟩ else if a.kind=12 then ⟨3,0,0,eS⟩ else ⟨0,0,0,eS⟩
def arm0(q:MPat)(s:CS):CS:=⟨s.ins++[⟨20,s.pats.length,0,eS⟩],s.pats++[q],s.lost⟩
def arm1(q:MPat)(f:CF)(env:List ByteArray)(s:CS):CS:=((f (env++pnames q.nodes) (arm0 q s)).emit ⟨15,(pnames q.nodes).length,0,eS⟩).emit ⟨12,0,0,eS⟩
def armC(q:MPat)(f:CF)(env:List ByteArray)(s:CS):CS:=⟨setB (arm1 q f env s).ins s.ins.length (arm1 q f env s).ins.length,(arm1 q f env s).pats,(arm1 q f env s).lost⟩
def xx(env:List ByteArray):List (MPat×CF)->CS->List Nat->CS×List Nat
 | [],s,js=>(s,js)
 | (q,f)::l,s,js=>xx env l (armC q f env s) (js++[(armC q f env s).ins.length - 1])
def xY(s:CS):List Nat->CS
 | []=>s
 | j::l=>xY (s.here j) l
def matC(f:CF)(l:List (MPat×CF))(env:List ByteArray)(s:CS):CS:=xY ((xx env l (f env s) []).1.emit ⟨21,0,0,eS⟩) (xx env l (f env s) []).2
def x6(ks:List CF)(env:List ByteArray)(s:CS):CS:=ks.foldl (fun s f=>f env s) s
def ifC(f g h:CF)(env:List ByteArray)(s:CS):CS:=
 ((h env (((g env ((f env s).emit ⟨13,0,0,eS⟩)).emit ⟨12,0,0,eS⟩).here (f env s).ins.length)).here (g env ((f env s).emit ⟨13,0,0,eS⟩)).ins.length)
def tryC(f g:CF)(x:ByteArray)(env:List ByteArray)(s:CS):CS:=
 (((g (env++[x]) ((((f env (s.emit ⟨18,0,0,eS⟩)).emit ⟨19,0,0,eS⟩).emit ⟨12,0,0,eS⟩).here s.ins.length)).emit ⟨15,1,0,eS⟩).here ((f env (s.emit ⟨18,0,0,eS⟩)).emit ⟨19,0,0,eS⟩).ins.length)
def uT(a:EI)(ks:List KF):CF:=
 if a.kind=3 then zR a.s
 else if a.kind=5 then funC 8 (ks.getD 0 default).f [a.s]
 else if a.kind=8 then fun env s=>((ks.getD 1 default).f (env++[a.s]) (funC 9 ((ks.getD 0 default).sub.getD 0 fun _ s=>s) [a.s,(ks.getD 0 default).a.s] env s)).emit ⟨15,1,0,eS⟩
 else if a.kind=19 then fun env s=>(ks.getD 1 default).f env (((ks.getD 0 default).f env s).emit ⟨25,0,0,eS⟩)
 else if a.kind=7 then fun env s=>((ks.getD 1 default).f (env++[a.s]) (((ks.getD 0 default).f env s).emit ⟨14,0,0,eS⟩)).emit ⟨15,1,0,eS⟩
 else if a.kind=9 then ifC (ks.getD 0 default).f (ks.getD 1 default).f (ks.getD 2 default).f
 else if a.kind=15 then tryC (ks.getD 0 default).f (ks.getD 1 default).f a.s
 else if a.kind=13 then matC (ks.getD 0 default).f (a.pats.zip ((ks.drop 1).map fun k=>k.f))
 else fun env s=>(x6 (ks.map fun k=>k.f) env s).emit (endI a ks.length)
def ya(chk:Bool)(s:CS):Bool:=chk&&(s.lost||decide (3000<s.ins.length))
def stepC(chk:Bool)(a:EI)(ks:List KF):CF:=fun env s=>if ya chk s=true then ⟨s.ins,s.pats,true⟩ else uT a ks env s
mutual
def kf(chk:Bool):ET->KF
 | .mk a l=>⟨a,stepC chk a (kfL chk l),(kfL chk l).map fun k=>k.f⟩
def kfL(chk:Bool):List ET->List KF
 | []=>[]
 | t::l=>kf chk t::kfL chk l
end
def cmp(chk:Bool)(t:ET):CF:=(kf chk t).f
theorem kfL_map(chk:Bool)(l:List ET):kfL chk l=l.map (kf chk):=by
 induction l with
 | nil=>rfl
 | cons t l ih=>rw [kfL,ih];rfl
theorem kf_mk(chk:Bool)(a:EI)(l:List ET):kf chk (.mk a l)=⟨a,stepC chk a (l.map (kf chk)),l.map (cmp chk)⟩:=by
 rw [kf,kfL_map,List.map_map];rfl
theorem cmp_mk(chk:Bool)(a:EI)(l:List ET):cmp chk (.mk a l)=stepC chk a (l.map (kf chk)):=by rw [cmp,kf_mk]
theorem vH{chk:Bool}{a:EI}{l:List ET}{env:List ByteArray}{s:CS}(h:ya chk s=false):cmp chk (.mk a l) env s=uT a (l.map (kf chk)) env s:=by
 rw [cmp_mk,stepC,if_neg (by rw [h];simp)]
theorem X2{chk:Bool}{a:EI}{l:List ET}{env:List ByteArray}{s:CS}(h:ya chk s=true):cmp chk (.mk a l) env s=⟨s.ins,s.pats,true⟩:=by
 rw [cmp_mk,stepC,if_pos h]
theorem setA_len(l:List MIns)(k:Nat)(v:Int):(setA l k v).length=l.length:=by unfold setA;split<;>simp
theorem Xg(l:List MIns)(k:Nat)(v:Int):(setB l k v).length=l.length:=by unfold setB;split<;>simp
theorem Q7(s:CS)(i:MIns):(s.emit i).ins=s.ins++[i]:=rfl
theorem xk(s:CS)(i:MIns):(s.emit i).ins.length=s.ins.length+1:=by simp [CS.emit]
theorem Yt(s:CS)(i:MIns):(s.emit i).pats=s.pats:=rfl
theorem V7(s:CS)(i:MIns):(s.emit i).lost=s.lost:=rfl
theorem yc(s:CS)(k:Nat):(s.here k).ins.length=s.ins.length:=setA_len _ _ _
theorem ZW(s:CS)(k:Nat):(s.here k).pats=s.pats:=rfl
theorem ZV(s:CS)(k:Nat):(s.here k).lost=s.lost:=rfl
theorem wv(s:CS)(js:List Nat):(xY s js).ins.length=s.ins.length/\(xY s js).pats=s.pats/\(xY s js).lost=s.lost:=by
 induction js generalizing s with
 | nil=>exact ⟨rfl,rfl,rfl⟩
 | cons j l ih=>obtain ⟨h1,h2,h3⟩:=ih (s.here j);exact ⟨by rw [xY,h1,yc],by rw [xY,h2];rfl,by rw [xY,h3];rfl⟩
structure Gr(n m:Nat)(f:CF):Prop where
 lo:∀ env s,s.ins.length<=(f env s).ins.length
 hi:∀ env s,(f env s).ins.length<=s.ins.length+n
 plo:∀ env s,s.pats.length<=(f env s).pats.length
 phi:∀ env s,(f env s).pats.length<=s.pats.length+m
theorem Gr.mono{n m n' m':Nat}{f:CF}(h:Gr n m f)(h1:n<=n')(h2:m<=m'):Gr n' m' f:=⟨h.lo,fun e s=>by have:=h.hi e s;omega,h.plo,fun e s=>by have:=h.phi e s;omega⟩
theorem wi{n m:Nat}{f:CF}(h:Gr n m f)(op:Int)(names:List ByteArray):Gr (n+3) m (funC op f names):=by
 have e:∀ env s,(funC op f names env s).ins.length=(f (env++names) (yz op s)).ins.length+1:=fun env s=>by rw [funC,yc,xk]
 have e0:∀ s,(yz op s).ins.length=s.ins.length+2:=fun s=>by rw [yz,xk,xk]
 refine ⟨fun env s=>?_,fun env s=>?_,fun env s=>h.plo (env++names) (yz op s),fun env s=>h.phi (env++names) (yz op s)⟩
 .have:=h.lo (env++names) (yz op s);rw [e];rw [e0] at this;omega
 .have:=h.hi (env++names) (yz op s);rw [e];rw [e0] at this;omega
theorem gr_name(x:ByteArray):Gr 1 0 (zR x):=by
 refine ⟨fun env s=>?_,fun env s=>?_,fun env s=>?_,fun env s=>?_⟩<;>(unfold zR;split<;>simp [CS.emit])
theorem gr_arm{n m:Nat}{f:CF}(h:Gr n m f)(q:MPat):Gr (n+3) (m+1) (armC q f):=by
 have e1:∀ env s,(arm1 q f env s).ins.length=(f (env++pnames q.nodes) (arm0 q s)).ins.length+2:=fun env s=>by rw [arm1,xk,xk]
 have e:∀ env s,(armC q f env s).ins.length=(f (env++pnames q.nodes) (arm0 q s)).ins.length+2:=fun env s=>by rw [<- e1];exact Xg _ _ _
 have ep:∀ env s,(armC q f env s).pats=(f (env++pnames q.nodes) (arm0 q s)).pats:=fun env s=>rfl
 have e0:∀ s,(arm0 q s).ins.length=s.ins.length+1:=fun s=>by simp [arm0]
 have p0:∀ s,(arm0 q s).pats.length=s.pats.length+1:=fun s=>by simp [arm0]
 refine ⟨fun env s=>?_,fun env s=>?_,fun env s=>?_,fun env s=>?_⟩
 .have:=h.lo (env++pnames q.nodes) (arm0 q s);rw [e];rw [e0] at this;omega
 .have:=h.hi (env++pnames q.nodes) (arm0 q s);rw [e];rw [e0] at this;omega
 .have:=h.plo (env++pnames q.nodes) (arm0 q s);rw [ep];rw [p0] at this;omega
 .have:=h.phi (env++pnames q.nodes) (arm0 q s);rw [ep];rw [p0] at this;omega
theorem Gr.comp{n m n' m':Nat}{f g:CF}(hf:Gr n m f)(hg:Gr n' m' g)(u v:List ByteArray->List ByteArray):Gr (n+n') (m+m') (fun env s=>g (v env) (f (u env) s)):=
 ⟨fun e s=>Nat.le_trans (hf.lo (u e) s) (hg.lo (v e) _),fun e s=>by have:=hf.hi (u e) s;have:=hg.hi (v e) (f (u e) s);omega,fun e s=>Nat.le_trans (hf.plo (u e) s) (hg.plo (v e) _),fun e s=>by have:=hf.phi (u e) s;have:=hg.phi (v e) (f (u e) s);omega⟩
theorem gr_emit(i:MIns):Gr 1 0 (fun _ s=>s.emit i):=⟨fun e s=>by rw [xk];omega,fun e s=>by rw [xk];omega,fun e s=>Nat.le_refl _,fun e s=>Nat.le_refl _⟩
theorem gr_heres{n m:Nat}{f:CF}(h:Gr n m f)(g:List ByteArray->CS->List Nat):Gr n m (fun env s=>xY (f env s) (g env s)):=
 ⟨fun e s=>by rw [(wv _ _).1];exact h.lo e s,fun e s=>by rw [(wv _ _).1];exact h.hi e s,fun e s=>by rw [(wv _ _).2.1];exact h.plo e s,fun e s=>by rw [(wv _ _).2.1];exact h.phi e s⟩
theorem Gr.here{n m:Nat}{f:CF}(h:Gr n m f)(g:List ByteArray->CS->Nat):Gr n m (fun env s=>(f env s).here (g env s)):=
 ⟨fun e s=>by rw [yc];exact h.lo e s,fun e s=>by rw [yc];exact h.hi e s,h.plo,h.phi⟩
theorem XT(chk:Bool):∀ (qs:List MPat) (ts:List ET),(∀ t∈ts,Gr (4*t.size - 3) (2*t.size - 1) (cmp chk t))->∀ (env:List ByteArray) (s:CS) (js:List Nat),
  s.ins.length<=(xx env (qs.zip (ts.map (cmp chk))) s js).1.ins.length/\(xx env (qs.zip (ts.map (cmp chk))) s js).1.ins.length<=s.ins.length+4*sizeL ts /\
  s.pats.length<=(xx env (qs.zip (ts.map (cmp chk))) s js).1.pats.length/\(xx env (qs.zip (ts.map (cmp chk))) s js).1.pats.length<=s.pats.length+2*sizeL ts
 | [],ts,_,env,s,js=>by simp [xx]
 | q::qs,[],_,env,s,js=>by simp [xx]
 | q::qs,t::ts,h,env,s,js=>by
  have h1:=gr_arm (h t (by simp)) q
  have hs:=size_pos t;obtain ⟨a1,a2,a3,a4⟩:=XT chk qs ts (fun x hx=>h x (by simp [hx])) env (armC q (cmp chk t) env s) (js++[(armC q (cmp chk t) env s).ins.length - 1])
  have b1:=h1.lo env s;have b2:=h1.hi env s;have b3:=h1.plo env s;have b4:=h1.phi env s;rw [List.map_cons,List.zip_cons_cons,xx,sizeL_cons];omega
theorem Wu(chk:Bool):∀ (ts:List ET),(∀ t∈ts,Gr (4*t.size - 3) (2*t.size - 1) (cmp chk t))->Gr (4*sizeL ts) (2*sizeL ts) (x6 (ts.map (cmp chk)))
 | [],_=>⟨fun _ _=>Nat.le_refl _,fun _ _=>Nat.le_add_right _ _,fun _ _=>Nat.le_refl _,fun _ _=>Nat.le_add_right _ _⟩
 | t::ts,h=>by
  have h1:=h t (by simp)
  have h2:=Wu chk ts fun x hx=>h x (by simp [hx])
  have hs:=size_pos t;rw [sizeL_cons];exact (h1.comp h2 (fun e=>e) (fun e=>e)).mono (by omega) (by omega)
def endK(k:Int):Bool:=k==1||k==2||k==4||k==6||k==10||k==11||k==12||k==14||k==16||k==17||k==18
theorem kindC_end{a:EI}{ks:List KF}(h:endK a.kind=true):uT a ks=fun env s=>(x6 (ks.map fun k=>k.f) env s).emit (endI a ks.length):=by
 unfold endK at h
 simp only [Bool.or_eq_true,beq_iff_eq] at h
 unfold uT;rw [if_neg (by omega),if_neg (by omega),if_neg (by omega),if_neg (by omega),if_neg (by omega),if_neg (by omega),if_neg (by omega),if_neg (by omega)]
theorem kfs_f(chk:Bool)(l:List ET):((l.map (kf chk)).map fun k=>k.f)=l.map (cmp chk):=by rw [List.map_map];rfl
section
variable {chk:Bool} {a b:EI} {x y z:ET} {l:List ET} {env:List ByteArray} {s:CS}
theorem wg(hs:ya chk s=false)(h:endK a.kind=true):cmp chk (.mk a l) env s=(x6 (l.map (cmp chk)) env s).emit (endI a l.length):=by
 rw [vH hs,kindC_end h,kfs_f,List.length_map]
theorem vr(hs:ya chk s=false)(k:a.kind=3):cmp chk (.mk a l) env s=zR a.s env s:=by
 rw [vH hs];unfold uT;simp [k]
theorem vk(hs:ya chk s=false)(k:a.kind=5):cmp chk (.mk a [x]) env s=funC 8 (cmp chk x) [a.s] env s:=by
 rw [vH hs];unfold uT;simp [k];rfl
theorem vn(hs:ya chk s=false)(k:a.kind=8):cmp chk (.mk a [.mk b [x],y]) env s=(cmp chk y (env++[a.s]) (funC 9 (cmp chk x) [a.s,b.s] env s)).emit ⟨15,1,0,eS⟩:=by
 rw [vH hs];unfold uT;simp [k,kf_mk];rfl
theorem vo(hs:ya chk s=false)(k:a.kind=19):cmp chk (.mk a [x,y]) env s=cmp chk y env ((cmp chk x env s).emit ⟨25,0,0,eS⟩):=by
 rw [vH hs];unfold uT;simp [k];rfl
theorem vl(hs:ya chk s=false)(k:a.kind=7):cmp chk (.mk a [x,y]) env s=(cmp chk y (env++[a.s]) ((cmp chk x env s).emit ⟨14,0,0,eS⟩)).emit ⟨15,1,0,eS⟩:=by
 rw [vH hs];unfold uT;simp [k];rfl
theorem Xu(hs:ya chk s=false)(k:a.kind=9):cmp chk (.mk a [x,y,z]) env s=ifC (cmp chk x) (cmp chk y) (cmp chk z) env s:=by
 rw [vH hs];unfold uT;simp [k];rfl
theorem vq(hs:ya chk s=false)(k:a.kind=15):cmp chk (.mk a [x,y]) env s=tryC (cmp chk x) (cmp chk y) a.s env s:=by
 rw [vH hs];unfold uT;simp [k];rfl
theorem vm(hs:ya chk s=false)(k:a.kind=13):cmp chk (.mk a (x::l)) env s=matC (cmp chk x) (a.pats.zip (l.map (cmp chk))) env s:=by
 rw [vH hs];unfold uT;simp only [k,Int.reduceEq,if_true,if_false,reduceIte,List.map_cons,List.getD_cons_zero,List.drop_succ_cons,List.drop_zero,kfs_f];rfl
end
theorem gr_stop{n m:Nat}{f g:CF}{p:CS->Bool}(h:Gr n m g)(h1:∀ env s,p s=true->f env s=⟨s.ins,s.pats,true⟩)(h2:∀ env s,p s=false->f env s=g env s):Gr n m f:=by
 refine ⟨fun e s=>?_,fun e s=>?_,fun e s=>?_,fun e s=>?_⟩<;>cases hp:p s
 .rw [h2 e s hp];exact h.lo e s
 .rw [h1 e s hp];exact Nat.le_refl _
 .rw [h2 e s hp];exact h.hi e s
 .rw [h1 e s hp];exact Nat.le_add_right _ _
 .rw [h2 e s hp];exact h.plo e s
 .rw [h1 e s hp];exact Nat.le_refl _
 .rw [h2 e s hp];exact h.phi e s
 .rw [h1 e s hp];exact Nat.le_add_right _ _
theorem Gr.emit{n m:Nat}{f:CF}(h:Gr n m f)(i:MIns):Gr (n+1) m (fun env s=>(f env s).emit i):=h.comp (gr_emit i) (fun e=>e) (fun e=>e)
theorem xm(chk:Bool):∀ t:ET,okT t->Gr (4*t.size - 3) (2*t.size - 1) (cmp chk t):=fun t=>by
 induction t using Arb.indS with
 | h t ih=>
  intro ok;obtain ⟨a,l⟩:=t;have ok1:=ok.kid;have ihk:∀ t∈l,Gr (4*t.size - 3) (2*t.size - 1) (cmp chk t):=fun t ht=>ih t (size_lt ht) (ok1 t ht)
  have fin:∀ {n m:Nat} {g:CF},Gr n m g->n<=4*(1+sizeL l) - 3->m<=2*(1+sizeL l) - 1->(∀ env s,ya chk s=false->cmp chk (.mk a l) env s=g env s)->Gr (4*(Arb.mk a l).size - 3) (2*(Arb.mk a l).size - 1) (cmp chk (.mk a l)):=fun h h1 h2 h3=>by
   rw [size_mk];exact (gr_stop h (fun env s hs=>X2 hs) h3).mono h1 h2
  have ends:endK a.kind=true->Gr (4*(Arb.mk a l).size - 3) (2*(Arb.mk a l).size - 1) (cmp chk (.mk a l)):=fun h=>fin ((Wu chk l ihk).emit (endI a l.length)) (by omega) (by omega) fun env s hs=>wg hs h
  obtain ⟨v,-⟩:=ok.root;cases v with
  | int k e=>exact ends (by rw [k];rfl)
  | str k e=>exact ends (by rw [k];rfl)
  | con0 k e=>exact ends (by rw [k];rfl)
  | cons b x y k e=>exact ends (by rw [k];rfl)
  | con1 x k e=>exact ends (by rw [k];rfl)
  | app x y k e=>exact ends (by rw [k];rfl)
  | prim x y k e=>exact ends (by rw [k];rfl)
  | pair x y k e=>exact ends (by rw [k];rfl)
  | unit k e=>exact ends (by rw [k];rfl)
  | raise x k e=>exact ends (by rw [k];rfl)
  | ref x k e=>exact ends (by rw [k];rfl)
  | get x k e=>exact ends (by rw [k];rfl)
  | set x y k e=>exact ends (by rw [k];rfl)
  | var k e=>exact fin (gr_name a.s) (by omega) (by omega) fun env s hs=>vr hs k
  | func x k e=>
   subst e;have hx:=ihk x (by simp)
   have sx:=size_pos x;exact fin (wi hx 8 [a.s]) (by simp only [sizeL_cons,sizeL_nil];omega) (by simp only [sizeL_cons,sizeL_nil];omega) fun env s hs=>vk hs k
  | rec_ b x y k e=>
   subst e;have hy:=ihk y (by simp)
   have hx:Gr (4*x.size - 3) (2*x.size - 1) (cmp chk x):=ih x (size_lt2 (List.mem_singleton.2 rfl) (List.mem_cons_self ..)) ((ok1 _ (List.mem_cons_self ..)).kid x (List.mem_singleton.2 rfl));have sx:=size_pos x;have sy:=size_pos y;exact fin (((wi hx 9 [a.s,b.s]).comp hy (fun e=>e) (fun e=>e++[a.s])).emit ⟨15,1,0,eS⟩) (by simp only [sizeL_cons,sizeL_nil,size_mk];omega) (by simp only [sizeL_cons,sizeL_nil,size_mk];omega) fun env s hs=>vn hs k
  | seq x y k e=>
   subst e;have hx:=ihk x (by simp)
   have hy:=ihk y (by simp)
   have sx:=size_pos x;have sy:=size_pos y;exact fin ((hx.emit ⟨25,0,0,eS⟩).comp hy (fun e=>e) (fun e=>e)) (by simp only [sizeL_cons,sizeL_nil];omega) (by simp only [sizeL_cons,sizeL_nil];omega) fun env s hs=>vo hs k
  | let_ x y k e=>
   subst e;have hx:=ihk x (by simp)
   have hy:=ihk y (by simp)
   have sx:=size_pos x;have sy:=size_pos y;exact fin (((hx.emit ⟨14,0,0,eS⟩).comp hy (fun e=>e) (fun e=>e++[a.s])).emit ⟨15,1,0,eS⟩) (by simp only [sizeL_cons,sizeL_nil];omega) (by simp only [sizeL_cons,sizeL_nil];omega) fun env s hs=>vl hs k
  | if_ x y z k e=>
   subst e;have hx:=ihk x (by simp)
   have hy:=ihk y (by simp)
   have hz:=ihk z (by simp)
   have sx:=size_pos x;have sy:=size_pos y;have sz:=size_pos z;exact fin (((((((hx.emit ⟨13,0,0,eS⟩).comp hy (fun e=>e) (fun e=>e)).emit ⟨12,0,0,eS⟩).here (fun env s=>(cmp chk x env s).ins.length)).comp hz (fun e=>e) (fun e=>e)).here (fun env s=>(cmp chk y env ((cmp chk x env s).emit ⟨13,0,0,eS⟩)).ins.length))) (by simp only [sizeL_cons,sizeL_nil];omega) (by simp only [sizeL_cons,sizeL_nil];omega) fun env s hs=>Xu hs k
  | try_ x y k e=>
   subst e;have hx:=ihk x (by simp)
   have hy:=ihk y (by simp)
   have sx:=size_pos x;have sy:=size_pos y;exact fin ((((((((gr_emit ⟨18,0,0,eS⟩).comp hx (fun e=>e) (fun e=>e)).emit ⟨19,0,0,eS⟩).emit ⟨12,0,0,eS⟩).here (fun env s=>s.ins.length)).comp hy (fun e=>e) (fun e=>e++[a.s])).emit ⟨15,1,0,eS⟩).here (fun env s=>((cmp chk x env (s.emit ⟨18,0,0,eS⟩)).emit ⟨19,0,0,eS⟩).ins.length)) (by simp only [sizeL_cons,sizeL_nil];omega) (by simp only [sizeL_cons,sizeL_nil];omega) fun env s hs=>vq hs k
  | mat x r k e=>
   subst e;have hx:=ihk x (by simp)
   have sx:=size_pos x;have ga:Gr (4*sizeL r) (2*sizeL r) (fun env s=>(xx env (a.pats.zip (r.map (cmp chk))) s []).1):=by
    have h:=XT chk a.pats r fun t ht=>ihk t (by simp [ht])
    exact ⟨fun e s=>(h e s []).1,fun e s=>(h e s []).2.1,fun e s=>(h e s []).2.2.1,fun e s=>(h e s []).2.2.2⟩
   exact fin (gr_heres ((hx.comp ga (fun e=>e) (fun e=>e)).emit ⟨21,0,0,eS⟩) (fun env s=>(xx env (a.pats.zip (r.map (cmp chk))) (cmp chk x env s) []).2)) (by simp only [sizeL_cons];omega) (by simp only [sizeL_cons];omega) fun env s hs=>vm hs k
def Rl(s s':CS):Prop:=s=s'\/(s.lost=true/\s'.lost=true)
def Lp(f:CF):Prop:=∀ env s,s.lost=true->(f env s).lost=true
theorem lp_fun{f:CF}(h:Lp f)(op:Int)(names:List ByteArray):Lp (funC op f names):=fun env s hs=>h (env++names) (yz op s) hs
theorem lp_name(x:ByteArray):Lp (zR x):=fun env s hs=>by
 unfold zR;split
 .exact hs
 .show (s.lost||_)=true
  rw [hs];rfl
theorem lp_arm{f:CF}(h:Lp f)(q:MPat):Lp (armC q f):=fun env s hs=>h (env++pnames q.nodes) (arm0 q s) hs
theorem lp_arms:∀ (l:List (MPat×CF)),(∀ p∈l,Lp p.2)->∀ (env:List ByteArray) (s:CS) (js:List Nat),s.lost=true->(xx env l s js).1.lost=true
 | [],_,env,s,js,hs=>hs
 | (q,f)::l,h,env,s,js,hs=>lp_arms l (fun p hp=>h p (List.mem_cons_of_mem _ hp)) env _ _ (lp_arm (h _ (List.mem_cons_self ..)) q env s hs)
theorem lp_kids:∀ (l:List CF),(∀ f∈l,Lp f)->Lp (x6 l)
 | [],_,env,s,hs=>hs
 | f::l,h,env,s,hs=>lp_kids l (fun p hp=>h p (List.mem_cons_of_mem _ hp)) env _ (h _ (List.mem_cons_self ..) env s hs)
theorem zip_mem{qs:List MPat}{ts:List CF}{p:MPat×CF}(h:p∈qs.zip ts):p.2∈ts:=(List.of_mem_zip h).2
theorem yQ(chk:Bool):∀ t:ET,okT t->Lp (cmp chk t):=fun t=>by
 induction t using Arb.indS with
 | h t ih=>
  intro ok env s hs;obtain ⟨a,l⟩:=t;have ok1:=ok.kid;have ihk:∀ t∈l,Lp (cmp chk t):=fun t ht=>ih t (size_lt ht) (ok1 t ht)
  cases hst:ya chk s with
  | true=>rw [X2 hst]
  | false=>
   have ends:endK a.kind=true->(cmp chk (.mk a l) env s).lost=true:=fun h=>by
    rw [wg hst h];exact lp_kids _ (fun f hf=>by obtain ⟨t,ht,rfl⟩:=List.mem_map.1 hf;exact ihk t ht) env s hs
   have v:=ok.root.v;cases v with
   | var k e=>rw [vr hst k];exact lp_name _ env s hs
   | func x k e=>subst e;rw [vk hst k];exact lp_fun (ihk x (by simp)) _ _ env s hs
   | rec_ b x y k e=>
    subst e;rw [vn hst k];have hx:=ih x (size_lt2 (r:=[x]) (by simp) (List.mem_cons_self ..)) ((ok1 (.mk b [x]) (by simp)).kid x (by simp))
    exact ihk y (by simp) _ _ (lp_fun hx 9 [a.s,b.s] env s hs)
   | seq x y k e=>subst e;rw [vo hst k];exact ihk y (by simp) _ _ (ihk x (by simp) env s hs)
   | let_ x y k e=>subst e;rw [vl hst k];exact ihk y (by simp) _ _ (ihk x (by simp) env s hs)
   | if_ x y z k e=>subst e;rw [Xu hst k];exact ihk z (by simp) env _ (ihk y (by simp) env _ (ihk x (by simp) env s hs))
   | try_ x y k e=>subst e;rw [vq hst k];exact ihk y (by simp) _ _ (ihk x (by simp) env _ hs)
   | mat x r k e=>
    subst e;rw [vm hst k];show (xY _ _).lost=true;rw [(wv _ _).2.2];exact lp_arms _ (fun p hp=>by
     obtain ⟨t,ht,e⟩:=List.mem_map.1 (zip_mem hp);rw [<- e];exact ihk t (by simp [ht])) env _ _ (ihk x (by simp) env s hs)
   | int k e=>exact ends (by rw [k];rfl)
   | str k e=>exact ends (by rw [k];rfl)
   | con0 k e=>exact ends (by rw [k];rfl)
   | cons b x y k e=>exact ends (by rw [k];rfl)
   | con1 x k e=>exact ends (by rw [k];rfl)
   | app x y k e=>exact ends (by rw [k];rfl)
   | prim x y k e=>exact ends (by rw [k];rfl)
   | pair x y k e=>exact ends (by rw [k];rfl)
   | unit k e=>exact ends (by rw [k];rfl)
   | raise x k e=>exact ends (by rw [k];rfl)
   | ref x k e=>exact ends (by rw [k];rfl)
   | get x k e=>exact ends (by rw [k];rfl)
   | set x y k e=>exact ends (by rw [k];rfl)
def Ag(n:Nat)(f g:CF):Prop:=∀ env s,s.ins.length+n<=3000->Rl (f env s) (g env s)
theorem Rl.ap{f g:CF}{n:Nat}(h:Ag n f g)(lf:Lp f)(lg:Lp g){s s':CS}(hs:Rl s s')(hn:s.ins.length+n<=3000)(env:List ByteArray):Rl (f env s) (g env s'):=by
 rcases hs with rfl|⟨h1,h2⟩
 .exact h env s hn
 .exact .inr ⟨lf env s h1,lg env s' h2⟩
theorem Rl.same{s s':CS}(hs:Rl s s'){u:CS->CS}(hu:∀ s,(u s).lost=s.lost):Rl (u s) (u s'):=by
 rcases hs with rfl|⟨h1,h2⟩
 .exact .inl rfl
 .exact .inr ⟨(hu s).trans h1,(hu s').trans h2⟩
theorem ag_fun{f g:CF}{n:Nat}(h:Ag n f g)(lf:Lp f)(lg:Lp g)(op:Int)(names:List ByteArray):Ag (n+2) (funC op f names) (funC op g names):=fun env s hs=>by
 have e0:(yz op s).ins.length=s.ins.length+2:=by rw [yz,xk,xk]
 have:=h (env++names) (yz op s) (by omega)
 unfold funC;exact this.same (u:=fun q=>(q.emit ⟨11,0,0,eS⟩).here (s.ins.length+1)) fun q=>rfl
theorem ag_arm{f g:CF}{n:Nat}(h:Ag n f g)(q:MPat):Ag (n+1) (armC q f) (armC q g):=fun env s hs=>by
 have e0:(arm0 q s).ins.length=s.ins.length+1:=by simp [arm0]
 have:=h (env++pnames q.nodes) (arm0 q s) (by omega)
 unfold armC arm1;exact this.same (u:=fun z=>⟨setB ((z.emit ⟨15,(pnames q.nodes).length,0,eS⟩).emit ⟨12,0,0,eS⟩).ins s.ins.length ((z.emit ⟨15,(pnames q.nodes).length,0,eS⟩).emit ⟨12,0,0,eS⟩).ins.length,((z.emit ⟨15,(pnames q.nodes).length,0,eS⟩).emit ⟨12,0,0,eS⟩).pats,((z.emit ⟨15,(pnames q.nodes).length,0,eS⟩).emit ⟨12,0,0,eS⟩).lost⟩) fun q=>rfl
theorem ag_arms:∀ (qs:List MPat) (ts:List ET),(∀ t∈ts,okT t/\Ag (4*t.size - 3) (cmp true t) (cmp false t))->∀ (env:List ByteArray) (s s':CS) (js js':List Nat),(s=s'/\js=js'\/(s.lost=true/\s'.lost=true))->s.ins.length+4*sizeL ts<=3000 ->
  ((xx env (qs.zip (ts.map (cmp true))) s js)=(xx env (qs.zip (ts.map (cmp false))) s' js')\/((xx env (qs.zip (ts.map (cmp true))) s js).1.lost=true/\(xx env (qs.zip (ts.map (cmp false))) s' js').1.lost=true))
 | [],ts,_,env,s,s',js,js',h,_=>by
  rcases h with ⟨rfl,rfl⟩|h
  .exact .inl (by simp [xx])
  .exact .inr (by simpa [xx] using h)
 | q::qs,[],_,env,s,s',js,js',h,_=>by
  rcases h with ⟨rfl,rfl⟩|h
  .exact .inl (by simp [xx])
  .exact .inr (by simpa [xx] using h)
 | q::qs,t::ts,hh,env,s,s',js,js',h,hn=>by
  obtain ⟨ok,ag⟩:=hh t (by simp)
  rw [sizeL_cons] at hn
  have hz:=size_pos t;have gr:=(gr_arm (xm true t ok) q).hi env s;rw [List.map_cons,List.map_cons,List.zip_cons_cons,List.zip_cons_cons,xx,xx];have l1:=lp_arm (yQ true t ok) q;have l2:=lp_arm (yQ false t ok) q;refine ag_arms qs ts (fun x hx=>hh x (by simp [hx])) env _ _ _ _ ?_ (by omega)
  rcases h with ⟨rfl,rfl⟩|⟨h1,h2⟩
  .rcases ag_arm ag q env s (by omega) with e|⟨e1,e2⟩
   .exact .inl ⟨e,by rw [e]⟩
   .exact .inr ⟨e1,e2⟩
  .exact .inr ⟨l1 env s h1,l2 env s' h2⟩
theorem ag_kids:∀ (ts:List ET),(∀ t∈ts,okT t/\Ag (4*t.size - 3) (cmp true t) (cmp false t))->∀ (env:List ByteArray) (s s':CS),Rl s s'->s.ins.length+4*sizeL ts<=3000->Rl (x6 (ts.map (cmp true)) env s) (x6 (ts.map (cmp false)) env s')
 | [],_,env,s,s',h,_=>h
 | t::ts,hh,env,s,s',h,hn=>by
  obtain ⟨ok,ag⟩:=hh t (by simp)
  rw [sizeL_cons] at hn
  have gr:=(xm true t ok).hi env s;have hz:=size_pos t;exact ag_kids ts (fun x hx=>hh x (by simp [hx])) env (cmp true t env s) (cmp false t env s') (Rl.ap ag (yQ true t ok) (yQ false t ok) h (by omega) env) (by omega)
theorem cmp_ag:∀ t:ET,okT t->Ag (4*t.size - 3) (cmp true t) (cmp false t):=fun t=>by
 induction t using Arb.indS with
 | h t ih=>
  intro ok env s hn;obtain ⟨a,l⟩:=t;have ok1:=ok.kid;have ihk:∀ t∈l,okT t/\Ag (4*t.size - 3) (cmp true t) (cmp false t):=fun t ht=>⟨ok1 t ht,ih t (size_lt ht) (ok1 t ht)⟩
  rw [size_mk] at hn
  cases hl:s.lost with
  | true=>exact .inr ⟨yQ true _ ok env s hl,yQ false _ ok env s hl⟩
  | false=>
   have hst:ya true s=false:=by unfold ya;rw [hl];simp;omega
   have hsf:ya false s=false:=rfl;have em:∀ {u u':CS} (i:MIns),Rl u u'->Rl (u.emit i) (u'.emit i):=fun i h=>h.same (u:=fun q=>q.emit i) fun _=>rfl
   have ends:endK a.kind=true->Rl (cmp true (.mk a l) env s) (cmp false (.mk a l) env s):=fun h=>by
    rw [wg hst h,wg hsf h];exact em _ (ag_kids l ihk env s s (.inl rfl) (by omega))
   have ap:∀ x∈l,∀ {u u':CS} (env:List ByteArray),Rl u u'->u.ins.length+(4*x.size - 3)<=3000->Rl (cmp true x env u) (cmp false x env u'):=fun x hx u u' env h hn=>Rl.ap (ihk x hx).2 (yQ true x (ihk x hx).1) (yQ false x (ihk x hx).1) h hn env
   have gr:∀ x∈l,∀ env u,(cmp true x env u).ins.length<=u.ins.length+(4*x.size - 3):=fun x hx env u=>(xm true x (ok1 x hx)).hi env u
   have hr:∀ {u u' v v':CS},Rl v v'->(v=v'->u=u')->(v.lost=true->v'.lost=true->u.lost=true/\u'.lost=true)->Rl (u.here v.ins.length) (u'.here v'.ins.length):=fun {u u' v v'} h h1 h2=>by
    rcases h with h|⟨q1,q2⟩
    .rw [h,h1 h];exact .inl rfl
    .exact .inr (h2 q1 q2)
   have v:=ok.root.v;cases v with
   | var k e=>rw [vr hst k,vr hsf k];exact .inl rfl
   | func x k e=>
    subst e;simp only [sizeL_cons,sizeL_nil] at hn
    rw [vk hst k,vk hsf k];have:=size_pos x;exact ag_fun (ihk x (by simp)).2 (yQ true x (ihk x (by simp)).1) (yQ false x (ihk x (by simp)).1) _ _ env s (by omega)
   | rec_ b x y k e=>
    subst e;simp only [sizeL_cons,sizeL_nil,size_mk] at hn
    rw [vn hst k,vn hsf k];have okx:=(ok1 (.mk b [x]) (by simp)).kid x (by simp)
    have hx:=ih x (size_lt2 (r:=[x]) (by simp) (List.mem_cons_self ..)) okx
    have h1:=ag_fun hx (yQ true x okx) (yQ false x okx) 9 [a.s,b.s] env s (by omega)
    have g1:=(wi (xm true x okx) 9 [a.s,b.s]).hi env s;have:=size_pos x;exact em _ (ap y (by simp) _ h1 (by omega))
   | seq x y k e=>
    subst e;simp only [sizeL_cons,sizeL_nil] at hn
    rw [vo hst k,vo hsf k];have g1:=gr x (by simp) env s
    exact ap y (by simp) env (em _ (ap x (by simp) env (.inl rfl) (by omega))) (by rw [xk];have:=size_pos x;omega)
   | let_ x y k e=>
    subst e;simp only [sizeL_cons,sizeL_nil] at hn
    rw [vl hst k,vl hsf k];have g1:=gr x (by simp) env s
    exact em _ (ap y (by simp) _ (em _ (ap x (by simp) env (.inl rfl) (by omega))) (by rw [xk];have:=size_pos x;omega))
   | if_ x y z k e=>
    subst e;simp only [sizeL_cons,sizeL_nil] at hn
    rw [Xu hst k,Xu hsf k];have zx:=size_pos x;have zy:=size_pos y;have g1:=gr x (by simp) env s
    have h1:=ap x (by simp) env (.inl (rfl:s=s)) (by omega)
    have h2:=ap y (by simp) env (em ⟨13,0,0,eS⟩ h1) (by rw [xk];omega)
    have g2:=gr y (by simp) env ((cmp true x env s).emit ⟨13,0,0,eS⟩)
    rw [xk] at g2
    have h3:=em ⟨12,0,0,eS⟩ h2;have lx:=yQ true x (ok1 x (by simp))
    have ly:=yQ true y (ok1 y (by simp))
    have lz:=yQ true z (ok1 z (by simp))
    have lx':=yQ false x (ok1 x (by simp))
    have ly':=yQ false y (ok1 y (by simp))
    have lz':=yQ false z (ok1 z (by simp))
    unfold ifC;have h4:Rl (((cmp true y env ((cmp true x env s).emit ⟨13,0,0,eS⟩)).emit ⟨12,0,0,eS⟩).here (cmp true x env s).ins.length) (((cmp false y env ((cmp false x env s).emit ⟨13,0,0,eS⟩)).emit ⟨12,0,0,eS⟩).here (cmp false x env s).ins.length):=by
     rcases h1 with e|⟨q1,q2⟩
     .rw [<- e] at h3 ⊢
      exact h3.same (u:=fun q=>q.here (cmp true x env s).ins.length) fun _=>rfl
     .exact .inr ⟨ly env _ q1,ly' env _ q2⟩
    have h5:=ap z (by simp) env h4 (by rw [yc,xk];omega)
    rcases h2 with e|⟨q1,q2⟩
    .rw [<- e] at h5 ⊢
     exact h5.same (u:=fun q=>q.here (cmp true y env ((cmp true x env s).emit ⟨13,0,0,eS⟩)).ins.length) fun _=>rfl
    .exact .inr ⟨lz env _ q1,lz' env _ q2⟩
   | try_ x y k e=>
    subst e;simp only [sizeL_cons,sizeL_nil] at hn
    rw [vq hst k,vq hsf k];have zx:=size_pos x;have g1:=gr x (by simp) env (s.emit ⟨18,0,0,eS⟩)
    rw [xk] at g1
    have h1:=ap x (by simp) env (.inl (rfl:s.emit ⟨18,0,0,eS⟩=s.emit ⟨18,0,0,eS⟩)) (by rw [xk];omega)
    have h2:=em ⟨19,0,0,eS⟩ h1;have h3:=em ⟨12,0,0,eS⟩ h2;have h4:=h3.same (u:=fun q=>q.here s.ins.length) fun _=>rfl
    have h5:=em ⟨15,1,0,eS⟩ (ap y (by simp) (env++[a.s]) h4 (by rw [yc,xk,xk];omega))
    have ly:=yQ true y (ok1 y (by simp))
    have ly':=yQ false y (ok1 y (by simp))
    unfold tryC;rcases h2 with e|⟨q1,q2⟩
    .rw [<- e] at h5 ⊢
     exact h5.same (u:=fun q=>q.here ((cmp true x env (s.emit ⟨18,0,0,eS⟩)).emit ⟨19,0,0,eS⟩).ins.length) fun _=>rfl
    .exact .inr ⟨ly _ _ q1,ly' _ _ q2⟩
   | mat x r k e=>
    subst e;simp only [sizeL_cons] at hn
    rw [vm hst k,vm hsf k];have zx:=size_pos x;have g1:=gr x (by simp) env s
    have h1:=ap x (by simp) env (.inl (rfl:s=s)) (by omega)
    have h2:=ag_arms a.pats r (fun t ht=>ihk t (by simp [ht])) env (cmp true x env s) (cmp false x env s) [] [] (h1.imp (fun h=>⟨h,rfl⟩) id) (by omega)
    unfold matC;rcases h2 with e|⟨q1,q2⟩
    .rw [e];exact .inl rfl
    .right
     rw [(wv _ _).2.2,(wv _ _).2.2];exact ⟨q1,q2⟩
   | int k e=>exact ends (by rw [k];rfl)
   | str k e=>exact ends (by rw [k];rfl)
   | con0 k e=>exact ends (by rw [k];rfl)
   | cons b x y k e=>exact ends (by rw [k];rfl)
   | con1 x k e=>exact ends (by rw [k];rfl)
   | app x y k e=>exact ends (by rw [k];rfl)
   | prim x y k e=>exact ends (by rw [k];rfl)
   | pair x y k e=>exact ends (by rw [k];rfl)
   | unit k e=>exact ends (by rw [k];rfl)
   | raise x k e=>exact ends (by rw [k];rfl)
   | ref x k e=>exact ends (by rw [k];rfl)
   | get x k e=>exact ends (by rw [k];rfl)
   | set x y k e=>exact ends (by rw [k];rfl)
structure SmC(R:ByteArray->Prop)(Q:MPat->Prop)(s:CS):Prop where
 ins:∀ i∈s.ins,R i.s
 pats:∀ q∈s.pats,Q q
def SmF(R:ByteArray->Prop)(Q:MPat->Prop)(f:CF):Prop:=∀ env s,SmC R Q s->SmC R Q (f env s)
section
variable {R:ByteArray->Prop} {Q:MPat->Prop}
theorem SmC.emit{s:CS}(h:SmC R Q s)(i:MIns)(hi:R i.s):SmC R Q (s.emit i):=
 ⟨fun j hj=>by
  rcases List.mem_append.1 hj with hj|hj
  .exact h.ins j hj
  .rw [List.mem_singleton.1 hj];exact hi,h.pats⟩
theorem setA_mem{l:List MIns}{k:Nat}{v:Int}{i:MIns}(h:i∈setA l k v):∃ j∈l,i.s=j.s:=by
 unfold setA at h
 split at h
 .rename_i x hx
  rcases List.mem_or_eq_of_mem_set h with h|h
  .exact ⟨i,h,rfl⟩
  .exact ⟨x,List.mem_of_getElem? hx,by rw [h]⟩
 .exact ⟨i,h,rfl⟩
theorem setB_mem{l:List MIns}{k:Nat}{v:Int}{i:MIns}(h:i∈setB l k v):∃ j∈l,i.s=j.s:=by
 unfold setB at h
 split at h
 .rename_i x hx
  rcases List.mem_or_eq_of_mem_set h with h|h
  .exact ⟨i,h,rfl⟩
  .exact ⟨x,List.mem_of_getElem? hx,by rw [h]⟩
 .exact ⟨i,h,rfl⟩
theorem SmC.here{s:CS}(h:SmC R Q s)(k:Nat):SmC R Q (s.here k):=
 ⟨fun i hi=>by obtain ⟨j,hj,e⟩:=setA_mem hi;rw [e];exact h.ins j hj,h.pats⟩
theorem SmC.heres{s:CS}(h:SmC R Q s):∀ js:List Nat,SmC R Q (xY s js):=fun js=>by
 induction js generalizing s with
 | nil=>exact h
 | cons j l ih=>exact ih (h.here j)
theorem sm_fun{f:CF}(h:SmF R Q f)(he:R eS)(op:Int)(names:List ByteArray):SmF R Q (funC op f names):=fun env s hs=>((h _ _ ((hs.emit _ he).emit _ he)).emit _ he).here _
theorem sm_arm{f:CF}(h:SmF R Q f)(he:R eS){q:MPat}(hq:Q q):SmF R Q (armC q f):=fun env s hs=>by
 have h0:SmC R Q (arm0 q s):=⟨(hs.emit ⟨20,s.pats.length,0,eS⟩ he).ins,fun p hp=>by
  rcases List.mem_append.1 hp with hp|hp
  .exact hs.pats p hp
  .rw [List.mem_singleton.1 hp];exact hq⟩
 have h1:SmC R Q (arm1 q f env s):=((h _ _ h0).emit _ he).emit _ he;exact ⟨fun i hi=>by obtain ⟨j,hj,e⟩:=setB_mem hi;rw [e];exact h1.ins j hj,h1.pats⟩
theorem sm_arms(he:R eS):∀ (l:List (MPat×CF)),(∀ p∈l,Q p.1/\SmF R Q p.2)->∀ (env:List ByteArray) (s:CS) (js:List Nat),SmC R Q s->SmC R Q (xx env l s js).1
 | [],_,env,s,js,hs=>hs
 | (q,f)::l,h,env,s,js,hs=>sm_arms he l (fun p hp=>h p (List.mem_cons_of_mem _ hp)) env _ _ (sm_arm (h _ (List.mem_cons_self ..)).2 he (h _ (List.mem_cons_self ..)).1 env s hs)
theorem sm_kids:∀ (l:List CF),(∀ f∈l,SmF R Q f)->SmF R Q (x6 l)
 | [],_,env,s,hs=>hs
 | f::l,h,env,s,hs=>sm_kids l (fun p hp=>h p (List.mem_cons_of_mem _ hp)) env _ (h _ (List.mem_cons_self ..) env s hs)
theorem endI_s(a:EI)(n:Nat):(endI a n).s=eS\/(endI a n).s=a.s:=by
 unfold endI;split
 .exact .inl rfl
 split
 .exact .inr rfl
 split
 .exact .inl rfl
 split
 .exact .inl rfl
 split
 .exact .inl rfl
 split
 .exact .inl rfl
 split
 .exact .inl rfl
 split
 .exact .inr rfl
 split
 .exact .inl rfl
 split
 .exact .inr rfl
 split
 .exact .inl rfl
 exact .inl rfl
theorem cmp_sm(chk:Bool)(he:R eS):∀ t:ET,okT t->All (fun a _=>R a.s/\∀ q∈a.pats,Q q) t->SmF R Q (cmp chk t):=fun t=>by
 induction t using Arb.indS with
 | h t ih=>
  intro ok sm env s hs;obtain ⟨a,l⟩:=t;have ok1:=ok.kid;have sm1:=sm.kid;obtain ⟨ha,hq⟩:=sm.root;have ihk:∀ t∈l,SmF R Q (cmp chk t):=fun t ht=>ih t (size_lt ht) (ok1 t ht) (sm1 t ht)
  cases hst:ya chk s with
  | true=>rw [X2 hst];exact ⟨hs.ins,hs.pats⟩
  | false=>
   have ends:endK a.kind=true->SmC R Q (cmp chk (.mk a l) env s):=fun h=>by
    rw [wg hst h];refine (sm_kids _ (fun f hf=>by obtain ⟨t,ht,rfl⟩:=List.mem_map.1 hf;exact ihk t ht) env s hs).emit _ ?_
    rcases endI_s a l.length with e|e<;>rw [e]
    .exact he
    .exact ha
   have v:=ok.root.v;cases v with
   | var k e=>
    rw [vr hst k];unfold zR;split
    .exact hs.emit _ he
    .exact ⟨(hs.emit ⟨7,0,0,a.s⟩ ha).ins,hs.pats⟩
   | func x k e=>subst e;rw [vk hst k];exact sm_fun (ihk x (by simp)) he _ _ env s hs
   | rec_ b x y k e=>
    subst e;rw [vn hst k];have hx:=ih x (size_lt2 (r:=[x]) (by simp) (List.mem_cons_self ..)) ((ok1 (.mk b [x]) (by simp)).kid x (by simp)) ((sm1 (.mk b [x]) (by simp)).kid x (by simp))
    exact (ihk y (by simp) _ _ (sm_fun hx he 9 [a.s,b.s] env s hs)).emit _ he
   | seq x y k e=>subst e;rw [vo hst k];exact ihk y (by simp) _ _ ((ihk x (by simp) env s hs).emit _ he)
   | let_ x y k e=>subst e;rw [vl hst k];exact (ihk y (by simp) _ _ ((ihk x (by simp) env s hs).emit _ he)).emit _ he
   | if_ x y z k e=>subst e;rw [Xu hst k];exact (ihk z (by simp) env _ (((ihk y (by simp) env _ ((ihk x (by simp) env s hs).emit _ he)).emit _ he).here _)).here _
   | try_ x y k e=>subst e;rw [vq hst k];exact ((ihk y (by simp) _ _ ((((ihk x (by simp) env _ (hs.emit _ he)).emit _ he).emit _ he).here _)).emit _ he).here _
   | mat x r k e=>
    subst e;rw [vm hst k];refine ((sm_arms he _ (fun p hp=>⟨hq _ (List.of_mem_zip hp).1,?_⟩) env _ _ (ihk x (by simp) env s hs)).emit _ he).heres _
    obtain ⟨t,ht,e⟩:=List.mem_map.1 (zip_mem hp);rw [<- e];exact ihk t (by simp [ht])
   | int k e=>exact ends (by rw [k];rfl)
   | str k e=>exact ends (by rw [k];rfl)
   | con0 k e=>exact ends (by rw [k];rfl)
   | cons b x y k e=>exact ends (by rw [k];rfl)
   | con1 x k e=>exact ends (by rw [k];rfl)
   | app x y k e=>exact ends (by rw [k];rfl)
   | prim x y k e=>exact ends (by rw [k];rfl)
   | pair x y k e=>exact ends (by rw [k];rfl)
   | unit k e=>exact ends (by rw [k];rfl)
   | raise x k e=>exact ends (by rw [k];rfl)
   | ref x k e=>exact ends (by rw [k];rfl)
   | get x k e=>exact ends (by rw [k];rfl)
   | set x y k e=>exact ends (by rw [k];rfl)
end
end
end Go.Proofs.YtgcdbmcoendcdaaGreat
