/- Parts of the proof. -/
import Derived.Deep.LoopGhost
import Derived.Deep.RegionLaw
import Derived.Deep.RegionWith
import Derived.Deep.Slices
import Derived.Laws.AppendOwn
import Derived.Laws.CopyRow
import Derived.Laws.Cover3
import Derived.Laws.EntriesVeiled
import Derived.Laws.Externs
import Derived.Laws.IdiomStrings
import Derived.Laws.StructEq
import Derived.Lib.AppendStr
import Derived.Lib.AppendZeros
import Derived.Lib.AppendZerosOnto
import Derived.Lib.Hide
import Derived.Lib.Overlaps
import Derived.ProofKit
import Derived.Test.YtmnokalddmlogaaGreatProg
import Derived.WalkKit
set_option linter.unusedSimpArgs false
set_option linter.unusedVariables false
set_option maxRecDepth 100000
set_option maxHeartbeats 8000000
namespace Go.Proofs.YtmnokalddmlogaaGreat
section
open Go.RowKit
end
section
def digI(n:Int):Bool:=decide (48<=n)&&decide (n<=57)
def lowI(n:Int):Bool:=decide (97<=n)&&decide (n<=122)
def uppI(n:Int):Bool:=decide (65<=n)&&decide (n<=90)
def worI(n:Int):Bool:=lowI n||uppI n||digI n||n==95
def clsI(n:Int):Int:=if lowI n then 1 else if uppI n then 2 else if digI n||n==95 then 3 else 0
theorem xa7(n:Int):(clsI n==0)=!worI n:=by grind [clsI,worI]
theorem cls_one(n:Int):(clsI n==1)=lowI n:=by grind [clsI]
theorem cls_two(n:Int):(clsI n==2)=uppI n:=by grind [clsI,lowI,uppI]
def worB(b:UInt8):Bool:=worI (b.toNat:Int)
def lowB(b:UInt8):Bool:=lowI (b.toNat:Int)
def uppB(b:UInt8):Bool:=uppI (b.toNat:Int)
def yU(l:List UInt8):Bool:=l.all worB
def ww(l:List UInt8):Bool:=yU l&&decide (1<=l.length)&&decide (l.length<=12)
def uZ(p:UInt8->Bool)(l:List UInt8):Bool:=match l with|[]=>false|b::_=>p b
def conM(l:List UInt8):Bool:=ww l&&uZ uppB l
theorem Uc(l:List UInt8)(k:Nat)(h:k<l.length):yU (l.take (k+1))=(yU (l.take k)&&worB l[k]):=by
 unfold yU;rw [List.take_succ_eq_append_getElem h,List.all_append,List.all_cons,List.all_nil,Bool.and_true]
theorem VG{l:List UInt8}{k:Nat}(h:k=l.length)(ht:yU (l.take k)=true):yU l=true:=by
 subst h;simpa using ht
theorem xaN{l:List UInt8}{k:Nat}(h:k<l.length)(hw:worB l[k]=false):yU l=false:=by
 unfold yU;rw [List.all_eq_false];exact ⟨l[k],List.getElem_mem h,by simp [hw]⟩
theorem blen(s:ByteArray):s.data.toList.length=s.size:=rfl
theorem WN(s:ByteArray)(k:Nat)(h:k<s.size)(ha:yU (s.data.toList.take k)=true)(hw:worI (s[k].toNat:Int)=true):yU (s.data.toList.take (k+1))=true:=by
 rw [Uc _ _ h,ha];exact hw
theorem WO(s:ByteArray)(k:Nat)(h:k<s.size)(hw:worI (s[k].toNat:Int)=false):yU s.data.toList=false:=
 xaN (l:=s.data.toList) h hw
theorem U4(s:ByteArray)(k:Nat)(h:k=s.size)(ha:yU (s.data.toList.take k)=true):yU s.data.toList=true:=
 VG (l:=s.data.toList) h ha
def vu(f:Int)(l:List UInt8):Bool:=match l with|[]=>false|b::_=>clsI (b.toNat:Int)==f
def wj(f:Int)(l:List UInt8):Bool:=decide (1<=l.length)&&decide (l.length<=12)&&vu f l&&yU l
theorem xbh(f:Int)(l:List UInt8)(h:0<l.length):vu f l=(clsI (l[0].toNat:Int)==f):=by
 cases l with
 | nil=>simp at h
 | cons b l=>rfl
theorem Vq(f:Int)(s:ByteArray)(h:0<s.size):vu f s.data.toList=(clsI (s[0].toNat:Int)==f):=xbh f s.data.toList h
theorem xb9(p:UInt8->Bool)(l:List UInt8)(h:0<l.length):uZ p l=p l[0]:=by
 cases l with
 | nil=>simp at h
 | cons b l=>rfl
theorem ZP(p:UInt8->Bool)(s:ByteArray)(h:0<s.size):uZ p s.data.toList=p s[0]:=xb9 p s.data.toList h
theorem xc2{f:Int}{s:ByteArray}(h:¬ (1<=s.size/\s.size<=12)):wj f s.data.toList=false:=by
 unfold wj;rw [blen];grind
theorem xch{f:Int}{s:ByteArray}(h:0<s.size)(hc:(clsI (s[0].toNat:Int) != f)=true):wj f s.data.toList=false:=by
 unfold wj;rw [Vq f s h];grind
theorem xc0{f:Int}{s:ByteArray}(h:0<s.size)(h2:s.size<=12)(hc:(clsI (s[0].toNat:Int) != f)=false):wj f s.data.toList=yU s.data.toList:=by
 unfold wj;rw [Vq f s h,blen];grind
theorem xc1(l:List UInt8):wj 2 l=conM l:=by
 unfold wj conM ww;have:vu 2 l=uZ uppB l:=by cases l<;>simp [vu,uZ,cls_two,uppB]
 rw [this];grind
theorem VB(l:List UInt8):wj 1 l=(ww l&&uZ lowB l):=by
 unfold wj ww;have:vu 1 l=uZ lowB l:=by cases l<;>simp [vu,uZ,cls_one,lowB]
 rw [this];grind
theorem xas{s:ByteArray}(h:ww s.data.toList=true):0<s.size:=by
 unfold ww at h;rw [blen] at h;grind
theorem conM_of{s:ByteArray}(h:ww s.data.toList=true)(h0:0<s.size):uppI (s[0].toNat:Int)=conM s.data.toList:=by
 unfold conM;rw [h,ZP _ _ h0];rfl
theorem conM_not{s:ByteArray}(h:ww s.data.toList=false):false=conM s.data.toList:=by
 unfold conM;rw [h];rfl
theorem Qs{a b:ByteArray}(h:a.data.toList=b.data.toList):a=b:=by
 cases a;cases b;simp at h;simp [h]
theorem str_beq(x y:ByteArray):(x.toList==y.toList)=decide (x=y):=by
 rw [ByteArray.toList_eq,ByteArray.toList_eq,Bool.eq_iff_iff];simp only [beq_iff_eq,decide_eq_true_eq];exact ⟨Qs,fun h=>by rw [h]⟩
theorem XN{x y:ByteArray}(h:x=y):(x.toList==y.toList)=true:=by rw [str_beq];simp [h]
theorem v5{x y:ByteArray}(h:x≠y):(x.toList==y.toList)=false:=by rw [str_beq];simp [h]
def yQ(x:ByteArray):List ByteArray->Int
 | []=>-1
 | s::l=>if s=x then 0 else if yQ x l<0 then -1 else yQ x l+1
theorem idxOf_ge(x:ByteArray)(l:List ByteArray) : -1<=yQ x l:=by
 induction l with
 | nil=>simp [yQ]
 | cons s l ih=>simp only [yQ];grind
theorem Uy{x:ByteArray}:∀ {l:List ByteArray} {k:Nat} (_:k<l.length) (_:∀ j,j<k->l[j]?≠some x) (_:l[k]?=some x),yQ x l=k
 | [],k,h,_,_=>by simp at h
 | s::l,0,_,_,h=>by simp at h;simp [yQ,h]
 | s::l,k+1,hk,hn,h=>by
  have h0:s≠x:=by have:=hn 0 (by omega);simpa using this
  have ih:=Uy (l:=l) (k:=k) (by simpa using hk) (fun j hj=>by have:=hn (j+1) (by omega);simpa using this) (by simpa using h)
  simp only [yQ,if_neg h0,ih]
  grind
theorem YZ{x:ByteArray}:∀ {l:List ByteArray} (_:∀ j,j<l.length->l[j]?≠some x),yQ x l = -1
 | [],_=>rfl
 | s::l,h=>by
  have h0:s≠x:=by have:=h 0 (by simp);simpa using this
  have ih:=YZ (l:=l) (fun j hj=>by have:=h (j+1) (by simpa using hj);simpa using this)
  simp only [yQ,if_neg h0,ih]
  grind
theorem xaC(x:ByteArray)(l:List ByteArray):0<=yQ x l ↔ x∈l:=by
 induction l with
 | nil=>simp [yQ]
 | cons s l ih=>
  have h1:=idxOf_ge x l;rw [List.mem_cons,<- ih]
  by_cases h:s=x
  ·have e:yQ x (s::l)=0:=by simp [yQ,h]
   rw [e];simp [h]
  ·have e:yQ x (s::l)=if yQ x l<0 then -1 else yQ x l+1:=by simp [yQ,h]
   have hx:¬ x=s:=fun e=>h e.symm
   rw [e];simp only [hx,false_or]
   grind
def inL(x:ByteArray)(l:List ByteArray):Bool:=l.any fun s=>decide (s=x)
theorem uI(x:ByteArray)(l:List ByteArray):inL x l=true ↔ x∈l:=by
 unfold inL;rw [List.any_eq_true];exact ⟨fun ⟨s,hs,he⟩=>by have:=of_decide_eq_true he;exact this ▸ hs,fun h=>⟨x,h,by simp⟩⟩
theorem QW(x:ByteArray)(l:List ByteArray):decide (0<=yQ x l)=inL x l:=by
 rw [Bool.eq_iff_iff,decide_eq_true_eq,uI,xaC]
def we:List ByteArray:=[⟨#[108,101,116]⟩,⟨#[114,101,99]⟩,⟨#[105,110]⟩,⟨#[102,117,110]⟩,⟨#[105,102]⟩,⟨#[116,104,101,110]⟩,⟨#[101,108,115,101]⟩,⟨#[109,97,116,99,104]⟩,⟨#[119,105,116,104]⟩,⟨#[101,110,100]⟩,⟨#[116,121,112,101]⟩,⟨#[111,102]⟩,⟨#[114,97,105,115,101]⟩,⟨#[116,114,121]⟩,⟨#[114,101,102]⟩,⟨#[116,114,117,101]⟩,⟨#[102,97,108,115,101]⟩]
def uJ:List Value:=we.map Value.string
def yn(l:ByteArray):Bool:=ww l.data.toList&&uZ lowB l.data.toList&&!inL l we
end
section
open Go.RowKit
abbrev Hp:=Nat->Option Obj
def Sub(h:Hp)(w:World):Prop:=∀ b o,h b=some o->w.heap[b]?=some o
def hp(w:World):Hp:=fun b=>w.heap[b]?
def HLe(h h':Hp):Prop:=∀ b o,h b=some o->h' b=some o
theorem Sub.self(w:World):Sub (hp w) w:=fun _ _ h=>h
theorem Sub.hle{h:Hp}{w:World}(s:Sub h w):HLe h (hp w):=s
theorem Sub.lt{h:Hp}{w:World}(s:Sub h w){b:Nat}{o:Obj}(e:h b=some o):b<w.heap.size:=by
 have:=s b o e;rcases Nat.lt_or_ge b w.heap.size with hl|hl
 ·exact hl
 ·rw [Array.getElem?_eq_none hl] at this;cases this
theorem Sub.below{h:Hp}{w w':World}(s:Sub h w)(k:Below w.heap.size w w'):Sub h w':=fun b o e=>by
 rw [k.block b (s.lt e)];exact s b o e
def CellsAt(h:Hp)(b off:Nat)(vs:List Value):Prop:=
 ∃ c e fr,h b=some (.cells c e fr)/\∀ i,i<vs.length->c[off+i]?=vs[i]?
theorem CellsAt.le{h h':Hp}{b off:Nat}{vs:List Value}(x:CellsAt h b off vs)(l:HLe h h'):CellsAt h' b off vs:=
 let ⟨c,e,fr,hb,hc⟩:=x;⟨c,e,fr,l _ _ hb,hc⟩
theorem CellsAt.cell{h:Hp}{w:World}{b off:Nat}{vs:List Value}(x:CellsAt h b off vs)(s:Sub h w){i:Nat}(hi:i<vs.length) :
  w.cell? ⟨b,off+i,none⟩=some vs[i]:=by
 obtain ⟨c,e,fr,hb,hc⟩:=x;have:=s _ _ hb;simp only [World.cell?,this];rw [if_neg (by simp),hc i hi,List.getElem?_eq_getElem hi]
def Sl(h:Hp)(v:Value)(vs:List Value):Prop:=
 ∃ a c,v=.slice a vs.length c/\vs.length<=c/\c<=maxLen/\(vs=[]\/∃ b off,a=some ⟨b,off,none⟩/\CellsAt h b off vs)
theorem Ub(b off j:Nat):(⟨b,off,none⟩:Addr).add j=⟨b,off+j,none⟩:=by
 unfold Addr.add;split<;>simp_all
def ext(h:Hp)(B:Nat)(w:World):Hp:=fun b=>if b<B then h b else w.heap[b]?
theorem X5(w:World)(x:Value)(t:TypeId):(w.alloc (.cells #[x] t)).cell? ⟨w.heap.size,0,none⟩=some x:=by
 have:(w.alloc (.cells #[x] t)).heap[w.heap.size]?=some (.cells #[x] t):=by show (w.heap.push _)[w.heap.size]?=_;simp
 simp only [World.cell?,this]
 rfl
theorem bcell{W w1:World}(hb:Below W.heap.size W w1):(∀ b o,b<W.heap.size->w1.cell? ⟨b,o,none⟩=W.cell? ⟨b,o,none⟩)/\(∀ b o,b<W.heap.size->w1.frozen? ⟨b,o,none⟩=W.frozen? ⟨b,o,none⟩):=
 ⟨fun b o h=>hb.cell (p:=⟨b,o,none⟩) h,fun b o h=>hb.frozen (p:=⟨b,o,none⟩) h⟩
theorem wl{B:Nat}{a b c:World}(h:Below b.heap.size b c)(k:Below B a b)(l:B<=b.heap.size):Below B a c:=k.trans (h.mono l)
theorem wC{w wx:World}{a:Addr}{v:Value}(hb:Below w.heap.size w wx)(h:w.cell? a=some v):wx.cell? a=some v:=
 (hb.cell (World.block_lt_of_cell? _ _ h)).trans h
end
section
end
section
open Go.RowKit Go.ChangeShapes Go.WideShapes
section
variable {H:Type} {enc:TypeId×Value->H} {P:Program} {W:World} {held:Bool}
abbrev Rd(enc:TypeId×Value->H)(P:Program)(W:World)(fuel:Nat)(t:TypeId)(cs:List Value)(x:DataW H×List MemPlace):Prop:=DataW.trod enc P W 0 (fun _=>true) true fuel t cs=some x
theorem xbq{α β:Type}(f:α->Option β):∀ (l:List α) (ys:List β),l.mapM f=some ys->∀ a∈l,∃ y,f a=some y
 | [],_,_,a,ha=>by cases ha
 | b::l,ys,h,a,ha=>by
  rw [List.mapM_cons] at h
  cases hb:f b with
  | none=>rw [hb] at h;simp at h
  | some y=>
   rw [hb] at h
   cases hl:l.mapM f with
   | none=>rw [hl] at h;simp at h
   | some zs=>
    rcases List.mem_cons.1 ha with rfl|ha
    ·exact ⟨y,hb⟩
    ·exact xbq f l zs hl a ha
theorem z5{fuel:Nat}{t:TypeId}{fs:Array Field}{cs:List Value}{x:DataW H×List MemPlace}(hu:P.underlying t=some (.struct fs))(h:Rd enc P W fuel t cs x) :
  cs.length=P.cellsOf t/\∃ m,∀ f∈fs.toList,∃ y,Rd enc P W m f.type ((cs.drop f.offset).take (P.cellsOf f.type)) y:=by
 cases fuel with
 | zero=>simp [Rd,DataW.trod] at h
 | succ n=>
  unfold Rd DataW.trod at h
  rw [hu] at h
  simp only at h
  split at h
  ·rename_i hl
   refine ⟨hl,n,fun f hf=>?_⟩
   cases hm:fs.toList.mapM fun f=>DataW.trod enc P W 0 (fun _=>true) true n f.type ((cs.drop f.offset).take (P.cellsOf f.type)) with
   | none=>rw [hm] at h;simp at h
   | some ys=>exact xbq _ _ _ hm f hf
  ·cases h
theorem Vi{b off:Nat}{cs:List Value}(hpos:0<cs.length)(h:∀ i,i<cs.length->W.cell? ⟨b,off+i,none⟩=cs[i]?):CellsAt (hp W) b off cs:=by
 have h0:=h 0 hpos;rw [List.getElem?_eq_getElem hpos] at h0
 unfold World.cell? at h0
 split at h0
 ·rename_i c e fr he
  refine ⟨c,e,fr,he,fun i hi=>?_⟩
  have:=h i hi;simp only [World.cell?,he] at this
  rw [if_neg (by simp)] at this
  exact this
 ·cases h0
def SlOf{α:Type}(k:Nat)(R:Hp->List Value->α->Prop)(h:Hp)(v:Value)(xs:List α):Prop:=
 ∃ a c,v=.slice a xs.length c/\xs.length<=c/\c<=maxLen /\
  (xs=[]\/∃ b off,a=some ⟨b,off,none⟩/\∀ i (hi:i<xs.length),∃ r,r.length=k/\CellsAt h b (off+i*k) r/\R h r xs[i])
theorem SlOf.le{α:Type}{k:Nat}{R:Hp->List Value->α->Prop}{h h':Hp}{v:Value}{xs:List α}(x:SlOf k R h v xs)(l:HLe h h')(hR:∀ r x,x∈xs->R h r x->R h' r x):SlOf k R h' v xs:=
 let ⟨a,c,e,h1,h2,r⟩:=x
 ⟨a,c,e,h1,h2,r.imp id fun ⟨b,off,ea,hc⟩=>⟨b,off,ea,fun i hi=>let ⟨r,l1,l2,l3⟩:=hc i hi;⟨r,l1,l2.le l,hR _ _ (List.getElem_mem hi) l3⟩⟩⟩
theorem SlOf.nil{α:Type}(k:Nat)(R:Hp->List Value->α->Prop)(h:Hp):SlOf k R h (.slice none 0 0) []:=⟨none,0,rfl,Nat.le_refl _,by decide,.inl rfl⟩
theorem xcM{α:Type}{n:Nat}{p:Nat->α->Prop}(h:∀ i,i<n->∃ x,p i x):∃ xs:List α,xs.length=n/\∀ i (hi:i<xs.length),p i xs[i]:=by
 induction n with
 | zero=>exact ⟨[],rfl,fun i hi=>by simp at hi⟩
 | succ n ih=>
  obtain ⟨xs,hl,hx⟩:=ih (fun i hi=>h i (by omega))
  obtain ⟨x,hxn⟩:=h n (by omega)
  refine ⟨xs++[x],by simp [hl],fun i hi=>?_⟩
  by_cases e:i<xs.length
  ·rw [List.getElem_append_left e];exact hx i e
  ·have:i=n:=by simp at hi;omega
   subst this;rw [List.getElem_append_right (by omega)]
   simpa [hl] using hxn
theorem rd_slice{α:Type}{fuel:Nat}{t e:TypeId}{cs:List Value}{x:DataW H×List MemPlace}(k:Nat)(R:Hp->List Value->α->Prop)(hu:P.underlying t=some (.slice e))(hk:P.cellsOf e=k)(hk0:0<k)
  (hR:∀ n cs' y,Rd enc P W n e cs' y->∃ z,R (hp W) cs' z) (h:Rd enc P W fuel t cs x):∃ v xs,cs=[v]/\SlOf k R (hp W) v (xs:List α):=by
 rcases Deep.open_slice hu h with ⟨rfl,_⟩|⟨a,len,cap,m,n,D,Pl,rfl,-,hl,hm,hmm,-,hel⟩
 ·exact ⟨_,[],rfl,SlOf.nil _ _ _⟩
 ·have hmm':m=cap:=by simpa using hmm
  subst hmm';rw [hk] at hel
  by_cases h0:len=0
  ·subst h0
   exact ⟨_,[],rfl,some a,m,rfl,Nat.zero_le _,hm,.inl rfl⟩
  ·obtain ⟨b,off,spot⟩:=a
   have hspot:spot=none:=by
    obtain ⟨cs',h1,_⟩:=hel 0 (by omega)
    obtain ⟨_,h2,h3⟩:=World.cells?_some h1;have h4:=h3 0 hk0;rw [List.getElem?_eq_getElem (by omega)] at h4
    have:=World.cell?_spot h4
    simpa [Addr.add] using this
   subst hspot;obtain ⟨xs,hxl,hxs⟩:=xcM (n:=len) (p:=fun i x=>∃ r,r.length=k/\CellsAt (hp W) b (off+i*k) r/\R (hp W) r x) (fun i hi=>by
    obtain ⟨cs',h1,h2⟩:=hel i (by omega)
    obtain ⟨_,h3,h4⟩:=World.cells?_some h1;obtain ⟨z,hz⟩:=hR _ _ _ h2;refine ⟨z,cs',h3,Vi (by omega) (fun j hj=>?_),hz⟩
    have:=h4 j (by omega)
    rw [<- this];rw [Ub,Ub])
   exact ⟨_,xs,rfl,_,m,by rw [hxl],by omega,hm,.inr ⟨b,off,rfl,fun i hi=>hxs i hi⟩⟩
end
def I64(n:Int):Prop:=-9223372036854775808<=n/\n<=9223372036854775807
theorem i64_of{z:Int}(hz:(Lit.int .i64 z).wf=true):I64 z:=by
 simp only [Lit.wf,IntKind.min,IntKind.max,IntKind.signed,IntKind.bits,Bool.and_eq_true,decide_eq_true_eq,if_true] at hz
 unfold I64;omega
end
section
open Go.RowKit
theorem yB{a b:Bool}(h:a=b):Ending.returned (.bool a)=.returned (.bool b):=by rw [h]
theorem ret_n{k:IntKind}{a b:Int}(h:a=b):Ending.returned (.int k a)=.returned (.int k b):=by rw [h]
theorem xbk(w:World)(n:Int):Calls Tryz.prog 245 #[.int .u8 n] w fun e w'=>e=.returned (.bool (digI n))/\w=w':=by
 go_enter Tryz.func245,Tryz.ntmps245
 go_wp2
 all_goals
  go_ret
  exact ⟨yB (by grind [digI]),rfl⟩
theorem XB(w:World)(n:Int):Calls Tryz.prog 187 #[.int .u8 n] w fun e w'=>e=.returned (.bool (lowI n))/\w=w':=by
 go_enter Tryz.func187,Tryz.ntmps187
 go_wp2
 all_goals
  go_ret
  exact ⟨yB (by grind [lowI]),rfl⟩
theorem ZQ(w:World)(n:Int):Calls Tryz.prog 228 #[.int .u8 n] w fun e w'=>e=.returned (.bool (uppI n))/\w=w':=by
 go_enter Tryz.func228,Tryz.ntmps228
 go_wp2
 all_goals
  go_ret
  exact ⟨yB (by grind [uppI]),rfl⟩
theorem ur(w:World)(n:Int):Calls Tryz.prog 201 #[.int .u8 n] w fun e w'=>e=.returned (.int .i64 (clsI n))/\w=w':=by
 go_enter Tryz.func201,Tryz.ntmps201
 go_wp2
 all_goals
  go_ret
  exact ⟨ret_n (by grind [clsI,lowI,uppI,digI]),rfl⟩
theorem W7(w:World)(n:Int):Calls Tryz.prog 227 #[.int .u8 n] w fun e w'=>e=.returned (.bool (worI n))/\w=w':=by
 go_enter Tryz.func227,Tryz.ntmps227
 go_wp2_with (first|(go_at_call 187;refine (XB _ _).mono ?_;rintro e w' ⟨rfl,rfl⟩)|(go_at_call 228;refine (ZQ _ _).mono ?_;rintro e w' ⟨rfl,rfl⟩)|(go_at_call 245;refine (xbk _ _).mono ?_;rintro e w' ⟨rfl,rfl⟩))
 all_goals
  go_ret
  exact ⟨yB (by grind [worI]),rfl⟩
theorem xcb(w:World)(n a b:Int):Calls Tryz.prog 94 #[.int .i64 n,.int .i64 a,.int .i64 b] w fun e w'=>e=.returned (.bool (decide (a<=n)&&decide (n<=b)))/\w=w':=by
 go_enter Tryz.func94,Tryz.ntmps94
 go_wp2
 all_goals
  go_ret
  exact ⟨yB (by grind),rfl⟩
theorem ui(w:World)(s:ByteArray)(hs:s.size<=maxLen):Calls Tryz.prog 186 #[.string s] w fun e w'=>e=.returned (.bool (ww s.data.toList))/\w=w':=by
 unfold maxLen at hs
 go_enter Tryz.func186,Tryz.ntmps186
 go_wp2
 go_loop [6] (fun i=>∃ k:Nat,k<=s.size/\i=.int .i64 k/\yU (s.data.toList.take k)=true) (fun i=>s.size - (intOf i).toNat)
 case atStart=>exact ⟨0,Nat.zero_le _,rfl,rfl⟩
 case round=>
  obtain ⟨k,hk,rfl,hall⟩:=hrel;have HA:=Lib.hid hall;clear hall
  by_cases hlt:k<s.size
  ·cases hw:worI (s[k].toNat:Int)
   ·have HF:=Lib.hid (WO s k hlt hw)
    go_wp2_with (first|(go_at_call 227;refine (W7 _ _).mono ?_;rintro e w' ⟨rfl,rfl⟩))
    go_ret
    exact ⟨yB (by rw [ww,HF.out];rfl),rfl⟩
   ·have HF:=Lib.hid (WN s k hlt HA.out hw)
    go_wp2_with (first|(go_at_call 227;refine (W7 _ _).mono ?_;rintro e w' ⟨rfl,rfl⟩))
    go_round
    case rel=>exact ⟨k+1,by omega,by go_num,HF.out⟩
    case measure=>simp [intOf];omega
  ·have HF:=Lib.hid (U4 s k (by omega) HA.out)
   go_wp2_with (first|(go_at_call 94;refine (xcb _ _ _ _).mono ?_;rintro e w' ⟨rfl,rfl⟩))
   go_ret
   exact ⟨yB (by rw [ww,HF.out,blen];grind),rfl⟩
theorem XM(w:World)(s:ByteArray)(f:Int)(hs:s.size<=maxLen):Calls Tryz.prog 173 #[.string s,.int .i64 f] w fun e w'=>e=.returned (.bool (wj f s.data.toList))/\w=w':=by
 unfold maxLen at hs
 by_cases hl:1<=s.size/\s.size<=12
 ·obtain ⟨hl1,hl2⟩:=hl
  have h0:0<s.size:=hl1;cases hc:(clsI (s[0].toNat:Int) != f)
  ·have HS:=Lib.hid (xc0 h0 hl2 hc)
   go_enter Tryz.func173,Tryz.ntmps173
   go_wp2_with (first|(go_at_call 201;refine (ur _ _).mono ?_;rintro e w' ⟨rfl,rfl⟩))
   go_loop [5] (fun i=>∃ k:Nat,k<=s.size/\i=.int .i64 k/\yU (s.data.toList.take k)=true) (fun i=>s.size - (intOf i).toNat)
   case atStart=>exact ⟨0,Nat.zero_le _,rfl,rfl⟩
   case round=>
    obtain ⟨k,hk,rfl,hall⟩:=hrel;have HA:=Lib.hid hall;clear hall
    by_cases hlt:k<s.size
    ·cases hw:worI (s[k].toNat:Int)
     ·have HF:=Lib.hid (WO s k hlt hw)
      have hz:(clsI (s[k].toNat:Int)==0)=true:=by rw [xa7,hw];rfl
      go_wp2_with (first|(go_at_call 201;refine (ur _ _).mono ?_;rintro e w' ⟨rfl,rfl⟩))
      go_ret
      exact ⟨yB (by rw [HS.out,HF.out]),rfl⟩
     ·have HF:=Lib.hid (WN s k hlt HA.out hw)
      have hz:(clsI (s[k].toNat:Int)==0)=false:=by rw [xa7,hw];rfl
      go_wp2_with (first|(go_at_call 201;refine (ur _ _).mono ?_;rintro e w' ⟨rfl,rfl⟩))
      go_round
      case rel=>exact ⟨k+1,by omega,by go_num,HF.out⟩
      case measure=>simp [intOf];omega
    ·have HF:=Lib.hid (U4 s k (by omega) HA.out)
     go_wp2
     go_ret
     exact ⟨yB (by rw [HS.out,HF.out]),rfl⟩
  ·have HS:=Lib.hid (xch h0 hc)
   go_enter Tryz.func173,Tryz.ntmps173
   go_wp2_with (first|(go_at_call 201;refine (ur _ _).mono ?_;rintro e w' ⟨rfl,rfl⟩))
   go_ret
   exact ⟨yB HS.out.symm,rfl⟩
 ·have HS:=Lib.hid (xc2 (f:=f) hl)
  by_cases hl1:s.size<1
  all_goals
   go_enter Tryz.func173,Tryz.ntmps173
   go_wp2
   go_ret
   exact ⟨yB HS.out.symm,rfl⟩
theorem xc3(w:World)(s:ByteArray)(hs:s.size<=maxLen):Calls Tryz.prog 175 #[.string s] w fun e w'=>e=.returned (.bool (conM s.data.toList))/\w=w':=by
 go_enter Tryz.func175,Tryz.ntmps175
 go_wp2_with (first|(go_at_call 173;refine (XM _ _ _ hs).mono ?_;rintro e w' ⟨rfl,rfl⟩))
 go_ret
 exact ⟨yB (xc1 _),rfl⟩
theorem xcK(w:World)(s:ByteArray)(hs:s.size<=maxLen):Calls Tryz.prog 189 #[.string s] w fun e w'=>e=.returned (.bool (conM s.data.toList))/\w=w':=by
 cases hW:ww s.data.toList
 ·go_enter Tryz.func189,Tryz.ntmps189
  go_wp2_with (first|(go_at_call 186;refine (ui _ _ hs).mono ?_;rintro e w' ⟨rfl,rfl⟩))
  go_ret
  exact ⟨yB (conM_not hW),rfl⟩
 ·have h0:=xas hW
  go_enter Tryz.func189,Tryz.ntmps189
  go_wp2_with (first|(go_at_call 186;refine (ui _ _ hs).mono ?_;rintro e w' ⟨rfl,rfl⟩)|(go_at_call 228;refine (ZQ _ _).mono ?_;rintro e w' ⟨rfl,rfl⟩))
  go_ret
  exact ⟨yB (conM_of hW h0),rfl⟩
theorem vZ(w:World)(h:Hp)(hs:Sub h w)(v:Value)(ss:List ByteArray)(x:ByteArray)(hv:Sl h v (ss.map Value.string)):Calls Tryz.prog 142 #[v,.string x] w fun e w'=>e=.returned (.int .i64 (yQ x ss))/\w=w':=by
 obtain ⟨a,c,rfl,h1,h2,hr⟩:=hv;unfold maxLen at h2
 rw [List.length_map] at *
 go_enter Tryz.func142,Tryz.ntmps142
 go_wp2
 go_loop [8] (fun i=>∃ k:Nat,k<=ss.length/\i=.int .i64 k/\(∀ j,j<k->ss[j]?≠some x)) (fun i=>ss.length - (intOf i).toNat)
 case atStart=>exact ⟨0,Nat.zero_le _,rfl,by omega⟩
 case round=>
  obtain ⟨k,hk,rfl,hall⟩:=hrel;have HA:=Lib.hid hall;clear hall
  by_cases hlt:k<ss.length
  ·rcases hr with hr|⟨b,off,rfl,hc⟩
   ·have:ss=[]:=by simpa using hr
    subst this
    simp at hlt
   ·have hcell:w.cell? ⟨b,off+k,none⟩=some (.string ss[k]):=by
     have:=hc.cell hs (i:=k) (by simpa using hlt)
     simpa using this
    by_cases hx:x=ss[k]
    ·have hb:=XN hx
     have HF:=Lib.hid (Uy hlt HA.out (by rw [List.getElem?_eq_getElem hlt,<- hx]))
     clear hx
     go_wp2
     go_ret
     exact ⟨ret_n HF.out.symm,rfl⟩
    ·have hb:=v5 hx
     have HF:=Lib.hid hx;clear hx
     go_wp2
     go_round
     case rel=>
      refine ⟨k+1,by omega,by go_num,fun j hj=>?_⟩
      by_cases e:j=k
      ·subst e;rw [List.getElem?_eq_getElem hlt];exact fun e=>HF.out (Option.some.inj e).symm
      ·exact HA.out j (by omega)
     case measure=>simp [intOf];omega
  ·have HF:=Lib.hid (YZ (x:=x) (l:=ss) (fun j hj=>HA.out j (by omega)))
   go_wp2
   go_ret
   exact ⟨ret_n HF.out.symm,rfl⟩
theorem vk(w:World)(h:Hp)(hs:Sub h w)(v:Value)(ss:List ByteArray)(x:ByteArray)(hv:Sl h v (ss.map Value.string)):Calls Tryz.prog 89 #[v,.string x] w fun e w'=>e=.returned (.bool (inL x ss))/\w=w':=by
 go_enter Tryz.func89,Tryz.ntmps89
 go_wp2_with (first|(go_at_call 142;refine (vZ _ h hs v ss x hv).mono ?_;rintro e w' ⟨rfl,rfl⟩))
 go_ret
 exact ⟨yB (QW _ _),rfl⟩
theorem xaD(w:World):Calls Tryz.prog 188 #[] w fun e w'=>e=.returned (.slice (some ⟨w.heap.size,0,none⟩) 17 17)/\w.alloc (.cells uJ.toArray 9)=w':=by
 go_enter Tryz.func188,Tryz.ntmps188
 go_wp2
 go_ret
 exact ⟨rfl,rfl⟩
theorem Sl_new(w:World)(vs:List Value)(e:TypeId)(h1:vs.length<=maxLen):Sl (hp (w.alloc (.cells vs.toArray e))) (.slice (some ⟨w.heap.size,0,none⟩) vs.length vs.length) vs:=by
 refine ⟨_,_,rfl,Nat.le_refl _,h1,.inr ⟨_,_,rfl,vs.toArray,e,(0,0),?_,fun i hi=>?_⟩⟩
 ·show (w.heap.push _)[w.heap.size]?=_
  simp
 ·simp
theorem xca(w:World)(s:ByteArray)(hs:s.size<=maxLen):Calls Tryz.prog 139 #[.string s] w fun e w'=>e=.returned (.bool (yn s))/\Below w.heap.size w w':=by
 cases hW:ww s.data.toList
 ·go_enter Tryz.func139,Tryz.ntmps139
  go_wp2_with (first|(go_at_call 186;refine (ui _ _ hs).mono ?_;rintro e w' ⟨rfl,rfl⟩))
  go_ret
  exact ⟨yB (by rw [yn,hW];rfl),Below.refl _ _⟩
 ·have h0:=xas hW
  cases hL:lowI (s[0].toNat:Int)
  ·go_enter Tryz.func139,Tryz.ntmps139
   go_wp2_with (first|(go_at_call 186;refine (ui _ _ hs).mono ?_;rintro e w' ⟨rfl,rfl⟩)|(go_at_call 187;refine (XB _ _).mono ?_;rintro e w' ⟨rfl,rfl⟩))
   go_ret
   exact ⟨yB (by rw [yn,hW,ZP _ _ h0,lowB,hL];rfl),Below.refl _ _⟩
  ·go_enter Tryz.func139,Tryz.ntmps139
   go_wp2_with (first|(go_at_call 186;refine (ui _ _ hs).mono ?_;rintro e w' ⟨rfl,rfl⟩)|(go_at_call 187;refine (XB _ _).mono ?_;rintro e w' ⟨rfl,rfl⟩)|(go_at_call 188;refine (xaD _).mono ?_;rintro e w' ⟨rfl,rfl⟩)|(go_at_call 89;refine (vk _ _ (Sub.self _) _ we s (Sl_new _ uJ _ (by unfold maxLen;decide))).mono ?_;rintro e w' ⟨rfl,rfl⟩))
   go_ret
   exact ⟨yB (by rw [yn,hW,ZP _ _ h0,lowB,hL];rfl),(Below.refl _ _).alloc (Nat.le_refl _) _⟩
theorem inL_at{x:ByteArray}{l:List ByteArray}{k:Nat}(h:k<l.length)(e:x=l[k]):inL x l=true:=(uI _ _).2 (e ▸ List.getElem_mem h)
theorem inL_none{x:ByteArray}{l:List ByteArray}(h:∀ j,j<l.length->l[j]?≠some x):inL x l=false:=by
 cases e:inL x l with
 | false=>rfl
 | true=>
  obtain ⟨j,hj,ej⟩:=List.getElem_of_mem ((uI _ _).1 e);exact absurd (by rw [List.getElem?_eq_getElem hj,ej]) (h j hj)
theorem xbN(w:World)(s:ByteArray):Calls Tryz.prog 174 #[.string s] w fun e w'=>e=.returned (.bool (inL s we))/\Below w.heap.size w w':=by
 have hS:=Sl_new w uJ 9 (by unfold maxLen;decide)
 obtain ⟨a,c,e1,-,-,hr⟩:=hS;injection e1 with e1 _ e2
 subst e1;have HC:∀ k (h:k<we.length) (wr:World),Sub (hp (w.alloc (.cells uJ.toArray 9))) wr->wr.cell? ⟨w.heap.size,k,none⟩=some (.string we[k]):=by
  intro k h wr hw;rcases hr with hr|⟨b,off,e,hc⟩
  ·simp [uJ,we] at hr
  ·injection e with e;injection e with eb eo _;subst eb;subst eo
   have:=hc.cell hw (i:=k) (by simpa [uJ] using h)
   simpa [uJ] using this
 clear hr;have HC:=Lib.hid HC
 go_enter Tryz.func174,Tryz.ntmps174
 go_wp2
 go_loopw [7] (fun i wr=>∃ k:Nat,k<=17/\i=.int .i64 k/\(∀ j,j<k->we[j]?≠some s)/\Sub (hp (w.alloc (.cells uJ.toArray 9))) wr/\Below w.heap.size w wr) (fun i _=>17 - (intOf i).toNat)
 case atStart=>exact ⟨0,Nat.zero_le _,rfl,by omega,Sub.self _,(Below.refl _ _).alloc (Nat.le_refl _) _⟩
 case round=>
  obtain ⟨k,hk,rfl,hall,hsub,hbel⟩:=hrel;have HA:=Lib.hid hall;clear hall
  by_cases hlt:k<17
  ·have hcell:=HC.out k hlt _ hsub
   generalize hq:we[k]'hlt=q at hcell
   by_cases hx:s=q
   ·have hb:=XN hx
    have HF:=Lib.hid (inL_at (x:=s) (l:=we) hlt (by rw [hx,<- hq]))
    clear hx hq
    go_wp2
    go_ret
    exact ⟨yB HF.out.symm,hbel⟩
   ·have hb:=v5 hx
    have HF:=Lib.hid hx;have HQ:=Lib.hid hq;clear hx hq
    go_wp2
    go_roundw
    case rel=>
     refine ⟨k+1,by omega,by go_num,fun j hj=>?_,hsub,hbel⟩
     by_cases e:j=k
     ·subst e;rw [List.getElem?_eq_getElem hlt,HQ.out];exact fun e=>HF.out (Option.some.inj e).symm
     ·exact HA.out j (by omega)
    case measure=>simp [intOf];omega
  ·have HF:=Lib.hid (inL_none (x:=s) (l:=we) (fun j hj=>HA.out j (by have:we.length=17:=rfl;omega)))
   go_wp2
   go_ret
   exact ⟨yB HF.out.symm,hbel⟩
theorem xci(w:World)(s:ByteArray)(hs:s.size<=maxLen):Calls Tryz.prog 125 #[.string s] w fun e w'=>e=.returned (.bool (yn s))/\Below w.heap.size w w':=by
 cases hW:wj 1 s.data.toList
 ·go_enter Tryz.func125,Tryz.ntmps125
  go_wp2_with (first|(go_at_call 173;refine (XM _ _ _ hs).mono ?_;rintro e w' ⟨rfl,rfl⟩))
  go_ret
  exact ⟨yB (by rw [yn,<- VB,hW];rfl),Below.refl _ _⟩
 ·go_enter Tryz.func125,Tryz.ntmps125
  go_wp2_with (first|(go_at_call 173;refine (XM _ _ _ hs).mono ?_;rintro e w' ⟨rfl,rfl⟩)|(go_at_call 174;refine (xbN _ _).mono ?_;rintro e w1 ⟨rfl,hb⟩))
  go_ret
  exact ⟨yB (by rw [yn,<- VB,hW];rfl),hb⟩
inductive D where
 | s (v:Value)
 | nil
 | np
 | sl (k:Nat) (rows:List (List D))
 | pt (row:List D)
 | fn (f:FuncId) (caps:List D)
 | osl (e k:Nat) (rows:List (List D))
 | opa (k:Nat) (row:List D)
 | bx (id off:Nat)
 | el (id k i off:Nat)
 | bs (id k n:Nat)
 | ag (xs:List D)
 | un
 | tup (xs:List D)
 | mb (c:Bool) (x:D)
instance:Inhabited D:=⟨.nil⟩
abbrev D.opt(row:List D):D:=.opa 0 row
inductive Pos where
 | root (id:Nat)
 | cell (b o:Nat)
 | ans (m l:Nat)
 | par (j l:Nat)
inductive Rep(S:Nat->Prop)(up:Nat->Option Pos)(w:World):Option Pos->D->Value->Prop where
 | s {p:Option Pos} {v:Value}:v.oneCell'=true->Rep S up w p (.s v) v
 | nil {p:Option Pos}:Rep S up w p .nil (.slice none 0 0)
 | np {p:Option Pos}:Rep S up w p .np (.pointer none)
 | sl0 {p:Option Pos} {k:Nat} {a:Option Addr} {c:Nat}:c<=maxLen->Rep S up w p (.sl k []) (.slice a 0 c)
 | sl {p:Option Pos} {k:Nat} {rows:List (List D)} {b off c:Nat} (us:Nat->Nat->Value):rows.length<=c->c<=maxLen->(∀ (i:Nat) (row:List D),rows[i]?=some row->row.length=k) ->
   (∀ (i j:Nat) (row:List D) (d:D),rows[i]?=some row->row[j]?=some d->S b/\w.cell? ⟨b,off+i*k+j,none⟩=some (us i j)) ->
   (∀ (i j:Nat) (row:List D) (d:D),rows[i]?=some row->row[j]?=some d->Rep S up w none d (us i j))->Rep S up w p (.sl k rows) (.slice (some ⟨b,off,none⟩) rows.length c)
 | pt {p:Option Pos} {row:List D} {b off:Nat} (us:Nat->Value):(∀ (j:Nat) (d:D),row[j]?=some d->S b/\w.cell? ⟨b,off+j,none⟩=some (us j)) ->
   (∀ (j:Nat) (d:D),row[j]?=some d->Rep S up w none d (us j))->Rep S up w p (.pt row) (.pointer (some ⟨b,off,none⟩))
 | fn {p:Option Pos} {f:FuncId} {caps:List D} (us:Nat->Value):(∀ (j:Nat) (d:D),caps[j]?=some d->Rep S up w none d (us j))->Rep S up w p (.fn f caps) (.func (.func f) #[] ((List.range caps.length).map us).toArray)
 | osl0 {p:Option Pos} {e k:Nat}:Rep S up w p (.osl e k []) (.slice none 0 0)
 | osl {p:Pos} {e k:Nat} {rows:List (List D)} {b c:Nat} (cs:Array Value):up b=some p->w.heap[b]?=some (.cells cs e (0,0))->rows.length<=c->c<=maxLen->cs.size=c*k ->
   (∀ (i:Nat) (row:List D),rows[i]?=some row->row.length=k) ->
   (∀ (i j:Nat) (row:List D) (d:D),rows[i]?=some row->row[j]?=some d->Rep S up w (some (.cell b (i*k+j))) d (cs.getD (i*k+j) undef))->Rep S up w (some p) (.osl e k rows) (.slice (some ⟨b,0,none⟩) rows.length c)
 | opa {p:Pos} {k:Nat} {row:List D} {b ty:Nat} (cs:Array Value):up b=some p->w.heap[b]?=some (.cells cs ty (0,0))->cs.size=row.length ->
   (∀ (j:Nat) (d:D),row[j]?=some d->Rep S up w (some (.cell b j)) d (cs.getD j undef))->Rep S up w (some p) (.opa k row) (.pointer (some ⟨b,k,none⟩))
theorem Rep.opt{S:Nat->Prop}{up:Nat->Option Pos}{w:World}{p:Pos}{row:List D}{b ty:Nat}(cs:Array Value)(h1:up b=some p)(h2:w.heap[b]?=some (.cells cs ty (0,0)))(h3:cs.size=row.length)(h4:∀ (j:Nat) (d:D),row[j]?=some d->Rep S up w (some (.cell b j)) d (cs.getD j undef)):Rep S up w (some p) (.opt row) (.pointer (some ⟨b,0,none⟩)):=.opa cs h1 h2 h3 h4
theorem Rep.one{S:Nat->Prop}{up:Nat->Option Pos}{w:World}{p:Option Pos}{d:D}{v:Value}(h:Rep S up w p d v):v.oneCell'=true:=by
 cases h<;>first|assumption|rfl
structure Gh where
 β:Nat->Option Nat
 κ:Nat->Nat
 up:Nat->Option Pos
 S:Nat->Prop
structure Mv(Ok:Pos->Prop)(π:Pos->Pos)(g g':Gh)(w w':World):Prop where
 sl:∀ b,g.S b->g'.S b/\w'.heap[b]?=w.heap[b]?
 ow:∀ b p,g.up b=some p->Ok p->g'.up b=some (π p)/\w'.heap[b]?=w.heap[b]?
 st:∀ b p o,g.up b=some p->Ok p->Ok (.cell b o)/\π (.cell b o)=.cell b o
theorem ZF{w w':World}{b:Nat}(h:w'.heap[b]?=w.heap[b]?)(o:Nat):w'.cell? ⟨b,o,none⟩=w.cell? ⟨b,o,none⟩:=by simp only [World.cell?,h]
theorem Rep.move{Ok:Pos->Prop}{π:Pos->Pos}{g g':Gh}{w w':World}(m:Mv Ok π g g' w w'){p:Option Pos}{d:D}{v:Value}(h:Rep g.S g.up w p d v)(hp:∀ q,p=some q->Ok q):Rep g'.S g'.up w' (p.map π) d v:=by
 induction h with
 | s h=>exact .s h
 | nil=>exact .nil
 | np=>exact .np
 | sl0 h=>exact .sl0 h
 | sl us h1 h2 h3 h4 _ ih=>exact .sl us h1 h2 h3 (fun i j row d r1 r2=>⟨(m.sl _ (h4 i j row d r1 r2).1).1,(ZF (m.sl _ (h4 i j row d r1 r2).1).2 _).trans (h4 i j row d r1 r2).2⟩) (fun i j row d r1 r2=>ih i j row d r1 r2 (fun q hq=>by cases hq))
 | pt us h1 _ ih=>exact .pt us (fun j d r=>⟨(m.sl _ (h1 j d r).1).1,(ZF (m.sl _ (h1 j d r).1).2 _).trans (h1 j d r).2⟩) (fun j d r=>ih j d r (fun q hq=>by cases hq))
 | fn us _ ih=>exact .fn us (fun j d r=>ih j d r (fun q hq=>by cases hq))
 | osl0=>exact .osl0
 | @osl p e k rows b c cs h1 h2 h3 h4 h5 h6 _ ih=>
  have ho:=hp p rfl;obtain ⟨m1,m2⟩:=m.ow b p h1 ho;refine .osl cs m1 (m2.trans h2) h3 h4 h5 h6 fun i j row d r1 r2=>?_
  obtain ⟨m3,m4⟩:=m.st b p (i*k+j) h1 ho;have:=ih i j row d r1 r2 (fun q hq=>by injection hq with hq;subst hq;exact m3)
  rwa [Option.map_some,m4] at this
 | @opa p k row b ty cs h1 h2 h3 _ ih=>
  have ho:=hp p rfl;obtain ⟨m1,m2⟩:=m.ow b p h1 ho;refine .opa cs m1 (m2.trans h2) h3 fun j d r=>?_
  obtain ⟨m3,m4⟩:=m.st b p j h1 ho;have:=ih j d r (fun q hq=>by injection hq with hq;subst hq;exact m3)
  rwa [Option.map_some,m4] at this
def RC(g:Gh)(w:World)(p:Option Pos):D->Value->Prop
 | .bx id off,v=>∃ b,g.β id=some b/\v=.pointer (some ⟨b,off,none⟩)
 | .el id k i off,v=>∃ b,g.β id=some b/\v=.pointer (some ⟨b,i*k+off,none⟩)
 | .bs id _ n,v=>v=.slice ((g.β id).map fun b=>⟨b,0,none⟩) n (g.κ id)/\n<=g.κ id/\g.κ id<=maxLen/\(g.β id=none->g.κ id=0)
 | .un,v=>v.oneCell'=true
 | .ag _,_=>False
 | .tup _,_=>False
 | .mb _ _,_=>False
 | d,v=>Rep g.S g.up w p d v
def RCs(g:Gh)(w:World)(xs:List D)(us:List Value):Prop:=us.length=xs.length/\∀ (j:Nat) (x:D) (u:Value),xs[j]?=some x->us[j]?=some u->RC g w none x u
def RE(g:Gh)(w:World):D->Value->Prop
 | .ag xs,v=>∃ us:List Value,v=.agg us.toArray/\RCs g w xs us
 | .un,_=>True
 | d,v=>RC g w none d v
def RT(g:Gh)(w:World):D->Value->Prop
 | .tup xs,v=>∃ us:List Value,v=.tuple us.toArray/\us.length=xs.length/\∀ (j:Nat) (x:D) (u:Value),xs[j]?=some x->us[j]?=some u->RE g w x u
 | .mb c x,v=>(c=true->RE g w x v)/\(c=false->v=undef)
 | d,v=>RE g w d v
theorem Rep.rc{g:Gh}{w:World}{p:Option Pos}{d:D}{v:Value}(h:Rep g.S g.up w p d v):RC g w p d v:=by
 cases d<;>first|exact h|cases h
theorem RC.re{g:Gh}{w:World}{d:D}{v:Value}(h:RC g w none d v):RE g w d v:=by
 cases d<;>first|exact h|exact h.elim|trivial
theorem RE.rt{g:Gh}{w:World}{d:D}{v:Value}(h:RE g w d v):RT g w d v:=by
 cases d<;>first|exact h|exact (RC.elim h)|trivial|exact (show False from h).elim
theorem Rep.rt{g:Gh}{w:World}{d:D}{v:Value}(h:Rep g.S g.up w none d v):RT g w d v:=h.rc.re.rt
theorem RC.one{g:Gh}{w:World}{p:Option Pos}{d:D}{v:Value}(h:RC g w p d v):v.oneCell'=true:=by
 cases d<;>first|exact h|exact Rep.one h|(obtain ⟨b,-,rfl⟩:=h;rfl)|(obtain ⟨rfl,-⟩:=h;rfl)|exact h.elim
def scC(q:Nat->Bool):D->D
 | .bx id off=>if q id=true then .bx id off else .un
 | .el id k i off=>if q id=true then .el id k i off else .un
 | .bs id k n=>if q id=true then .bs id k n else .un
 | d=>d
def scE(q:Nat->Bool):D->D
 | .ag xs=>.ag (xs.map (scC q))
 | d=>scC q d
def scT(q:Nat->Bool):D->D
 | .tup xs=>.tup (xs.map (scE q))
 | .mb c x=>.mb c (scE q x)
 | d=>scE q d
inductive Ob where
 | box (row:List D)
 | arr (e k:Nat) (rows:List (List D))
 | hol (e k:Nat) (rows:List (List D)) (i c:Nat) (r:D)
 | rw (e k:Nat) (rows:List (List D)) (i:Nat) (rr:List D)
def scO(q:Nat->Bool):Ob->Ob
 | .box row=>.box (row.map (scC q))
 | .arr e k rows=>.arr e k rows
 | .hol e k rows i c r=>.hol e k rows i c (scC q r)
 | .rw e k rows i rr=>.rw e k rows i (rr.map (scC q))
structure St where
 t:Nat->D
 b:Nat->Option Ob
def RO(g:Gh)(w:World)(id:Nat):Ob->Prop
 | .box row=>∃ (b:Nat) (cs:Array Value) (ty:Nat),g.β id=some b/\g.up b=some (.root id)/\w.heap[b]?=some (.cells cs ty (0,0))/\cs.size=row.length/\∀ (j:Nat) (d:D),row[j]?=some d->RC g w (some (.cell b j)) d (cs.getD j undef)
 | .arr e k rows=>Rep g.S g.up w (some (.root id)) (.osl e k rows) (.slice ((g.β id).map fun b=>⟨b,0,none⟩) rows.length (g.κ id))
 | .hol e k rows i0 c0 r=>∃ (b:Nat) (cs:Array Value),g.β id=some b/\g.up b=some (.root id)/\w.heap[b]?=some (.cells cs e (0,0))/\rows.length<=g.κ id/\g.κ id<=maxLen/\cs.size=g.κ id*k/\(∀ (i:Nat) (row:List D),rows[i]?=some row->row.length=k) /\
   i0<rows.length/\c0<k/\RC g w (some (.cell b (i0*k+c0))) r (cs.getD (i0*k+c0) undef)/\∀ (i j:Nat) (row:List D) (d:D),rows[i]?=some row->row[j]?=some d->¬ (i=i0/\j=c0)->Rep g.S g.up w (some (.cell b (i*k+j))) d (cs.getD (i*k+j) undef)
 | .rw e k rows i0 rr=>∃ (b:Nat) (cs:Array Value),g.β id=some b/\g.up b=some (.root id)/\w.heap[b]?=some (.cells cs e (0,0))/\rows.length<=g.κ id/\g.κ id<=maxLen/\cs.size=g.κ id*k/\(∀ (i:Nat) (row:List D),rows[i]?=some row->row.length=k) /\
   i0<rows.length/\rr.length=k/\(∀ (j:Nat) (d:D),rr[j]?=some d->RC g w (some (.cell b (i0*k+j))) d (cs.getD (i0*k+j) undef))/\∀ (i j:Nat) (row:List D) (d:D),rows[i]?=some row->row[j]?=some d->i≠i0->Rep g.S g.up w (some (.cell b (i*k+j))) d (cs.getD (i*k+j) undef)
def isP(i:Nat):Bool:=decide (900000<=i)&&decide (i<1000000)
structure Cx where
 P:Program
 N:Nat
 S0:Nat->Prop
 G:Nat->Prop
 w0:World
 β0:Nat->Option Nat
 κ0:Nat->Nat
structure Rel(x:Cx)(g:Gh)(σ:St)(a:Act)(w:World):Prop where
 bel:Below 0 x.w0 w
 fr:∀ b,b<x.w0.heap.size->¬ x.G b->w.heap[b]?=x.w0.heap[b]?
 dfr:a.defers=[]
 sz:a.tmps.size=x.N
 tm:∀ i,RT g w (σ.t i) (a.tmps.getD i undef)
 s0:∀ b,x.S0 b->g.S b
 old:∀ b,b<x.w0.heap.size->g.S b->x.S0 b\/x.G b
 new:∀ b,g.S b->b<w.heap.size
 own:∀ b p,g.up b=some p->b<w.heap.size/\(b<x.w0.heap.size->x.G b)/\¬ g.S b
 ob:∀ id o,σ.b id=some o->RO g w id o
 par:∀ id o,σ.b id=some o->isP id=true->g.β id=x.β0 id/\g.κ id=x.κ0 id
def St.put(σ:St)(dst:Option Tmp)(x:D):St:=match dst with
 | some d=>⟨fun i=>if i=d then x else σ.t i,σ.b⟩
 | none=>σ
theorem Rel.put{x:Cx}{g:Gh}{σ:St}{a:Act}{w:World}(h:Rel x g σ a w){y:D}{v:Value}(hv:RT g w y v)(dst:Option Tmp)(hd:∀ d,dst=some d->d<x.N):Rel x g (σ.put dst y) (a.put dst v) w:=by
 cases dst with
 | none=>exact h
 | some d=>
  have hdn:=hd d rfl;refine { h with dfr:=h.dfr,sz:=by simpa [Act.put] using h.sz,tm:=fun i=>?_ }
  show RT g w (if i=d then y else σ.t i) ((a.tmps.setIfInBounds d v).getD i undef)
  by_cases e:i=d
  ·subst e
   rw [if_pos rfl];have:(a.tmps.setIfInBounds i v).getD i undef=v:=by
    rw [Array.getD_eq_getD_getElem?,Array.getElem?_setIfInBounds_self_of_lt (by rw [h.sz];exact hdn)];rfl
   rw [this];exact hv
  ·rw [if_neg e]
   have:(a.tmps.setIfInBounds d v).getD i undef=a.tmps.getD i undef:=by
    rw [Array.getD_eq_getD_getElem?,Array.getElem?_setIfInBounds_ne (by omega),<- Array.getD_eq_getD_getElem?]
   rw [this];exact h.tm i
structure Ev(Ok:Pos->Prop)(π:Pos->Pos)(q r:Nat->Bool)(g g':Gh)(w w':World):Prop extends Mv Ok π g g' w w' where
 rf:∀ id,q id=true->g'.β id=g.β id/\g'.κ id=g.κ id
 kp:∀ id,r id=true->q id=true/\Ok (.root id)/\π (.root id)=.root id
section
variable {Ok:Pos->Prop} {π:Pos->Pos} {q r:Nat->Bool} {g g':Gh} {w w':World}
theorem RC.ev(ev:Ev Ok π q r g g' w w'){p:Option Pos}(hp:∀ z,p=some z->Ok z){d:D}{v:Value}(h:RC g w p d v):RC g' w' (p.map π) (scC q d) v:=by
 cases d with
 | bx id off=>
  simp only [scC];split
  ·rename_i hq
   obtain ⟨b,h1,h2⟩:=h;exact ⟨b,(ev.rf id hq).1.trans h1,h2⟩
  ·exact h.one
 | el id k i off=>
  simp only [scC];split
  ·rename_i hq
   obtain ⟨b,h1,h2⟩:=h;exact ⟨b,(ev.rf id hq).1.trans h1,h2⟩
  ·exact h.one
 | bs id k n=>
  simp only [scC];split
  ·rename_i hq
   obtain ⟨e1,e2⟩:=ev.rf id hq;show v=_/\_;rw [e1,e2];exact h
  ·exact h.one
 | un=>exact h
 | ag _=>exact h
 | tup _=>exact h
 | mb _ _=>exact h
 | _=>exact (Rep.move ev.toMv h hp).rc
theorem RCs.ev(ev:Ev Ok π q r g g' w w'){xs:List D}{us:List Value}(h:RCs g w xs us):RCs g' w' (xs.map (scC q)) us:=by
 refine ⟨by simp [h.1],fun j y u a b=>?_⟩
 rw [List.getElem?_map] at a
 cases hy:xs[j]? with
 | none=>rw [hy] at a;cases a
 | some z=>rw [hy] at a;injection a with a;subst a;exact (h.2 j z u hy b).ev ev (fun z hz=>by cases hz)
theorem RE.ev(ev:Ev Ok π q r g g' w w'){d:D}{v:Value}(h:RE g w d v):RE g' w' (scE q d) v:=by
 cases d with
 | ag xs=>obtain ⟨us,rfl,h⟩:=h;exact ⟨us,rfl,h.ev ev⟩
 | un=>trivial
 | _=>simp only [RE] at h;exact (RC.ev ev (p:=none) (fun z hz=>by cases hz) h).re
theorem RT.ev(ev:Ev Ok π q r g g' w w'){d:D}{v:Value}(h:RT g w d v):RT g' w' (scT q d) v:=by
 cases d with
 | tup xs=>
  obtain ⟨us,rfl,h1,h2⟩:=h;refine ⟨us,rfl,by simp [h1],fun j y u a b=>?_⟩
  rw [List.getElem?_map] at a
  cases hy:xs[j]? with
  | none=>rw [hy] at a;cases a
  | some z=>rw [hy] at a;injection a with a;subst a;exact (h2 j z u hy b).ev ev
 | mb c x=>exact ⟨fun hc=>(h.1 hc).ev ev,h.2⟩
 | _=>simp only [RT] at h;exact (RE.ev ev h).rt
theorem RO.ev(ev:Ev Ok π q r g g' w w'){id:Nat}(hr:r id=true){o:Ob}(h:RO g w id o):RO g' w' id (scO q o):=by
 obtain ⟨k1,k2,k3⟩:=ev.kp id hr;obtain ⟨e1,e2⟩:=ev.rf id k1;cases o with
 | box row=>
  obtain ⟨b,cs,ty,h1,h2,h3,h4,h5⟩:=h;obtain ⟨m1,m2⟩:=ev.ow b _ h2 k2;refine ⟨b,cs,ty,e1.trans h1,by rw [m1,k3],m2.trans h3,by simp [h4],fun j d hd=>?_⟩
  rw [List.getElem?_map] at hd
  cases hy:row[j]? with
  | none=>rw [hy] at hd;cases hd
  | some z=>
   rw [hy] at hd;injection hd with hd;subst hd
   obtain ⟨m3,m4⟩:=ev.st b _ j h2 k2;have:=(h5 j z hy).ev ev (fun z hz=>by injection hz with hz;subst hz;exact m3)
   rwa [Option.map_some,m4] at this
 | arr e k rows=>
  have:=Rep.move ev.toMv h (fun z hz=>by injection hz with hz;subst hz;exact k2)
  rw [Option.map_some,k3] at this
  show Rep _ _ _ _ _ _;rw [e1,e2];exact this
 | hol e k rows i0 c0 r=>
  obtain ⟨b,cs,h1,h2,h3,h4,h5,h6,h7,h8,h9,h10,h11⟩:=h;obtain ⟨m1,m2⟩:=ev.ow b _ h2 k2;refine ⟨b,cs,e1.trans h1,by rw [m1,k3],m2.trans h3,by rw [e2];exact h4,by rw [e2];exact h5,by rw [e2];exact h6,h7,h8,h9,?_,fun i j row d r1 r2 r3=>?_⟩
  ·obtain ⟨m3,m4⟩:=ev.st b _ (i0*k+c0) h2 k2
   have:=h10.ev ev (fun z hz=>by injection hz with hz;subst hz;exact m3)
   rwa [Option.map_some,m4] at this
  ·obtain ⟨m3,m4⟩:=ev.st b _ (i*k+j) h2 k2
   have:=Rep.move ev.toMv (h11 i j row d r1 r2 r3) (fun z hz=>by injection hz with hz;subst hz;exact m3)
   rwa [Option.map_some,m4] at this
 | rw e k rows i0 rr=>
  obtain ⟨b,cs,h1,h2,h3,h4,h5,h6,h7,h8,h9,h10,h11⟩:=h;obtain ⟨m1,m2⟩:=ev.ow b _ h2 k2;refine ⟨b,cs,e1.trans h1,by rw [m1,k3],m2.trans h3,by rw [e2];exact h4,by rw [e2];exact h5,by rw [e2];exact h6,h7,h8,by rw [List.length_map];exact h9,fun j d hd=>?_,fun i j row d r1 r2 r3=>?_⟩
  ·obtain ⟨m3,m4⟩:=ev.st b _ (i0*k+j) h2 k2
   rw [List.getElem?_map] at hd
   cases hy:rr[j]? with
   | none=>rw [hy] at hd;cases hd
   | some z=>
    rw [hy] at hd;injection hd with hd;subst hd
    have:=(h10 j z hy).ev ev (fun z hz=>by injection hz with hz;subst hz;exact m3)
    rwa [Option.map_some,m4] at this
  ·obtain ⟨m3,m4⟩:=ev.st b _ (i*k+j) h2 k2
   have:=Rep.move ev.toMv (h11 i j row d r1 r2 r3) (fun z hz=>by injection hz with hz;subst hz;exact m3)
   rwa [Option.map_some,m4] at this
def St.sc(q r:Nat->Bool)(σ:St):St:=⟨fun i=>scT q (σ.t i),fun id=>if r id=true then (σ.b id).map (scO q) else none⟩
theorem Rel.ev{x:Cx}{σ:St}{a:Act}(h:Rel x g σ a w)(ev:Ev Ok π q r g g' w w')(hb:Below 0 w w')(hfr:∀ b,b<x.w0.heap.size->¬ x.G b->w'.heap[b]?=w.heap[b]?)
  (hold:∀ b,b<x.w0.heap.size->g'.S b->g.S b\/x.G b) (hnew:∀ b,g'.S b->b<w'.heap.size) (hown:∀ b p,g'.up b=some p->b<w'.heap.size/\(b<x.w0.heap.size->x.G b)/\¬ g'.S b):Rel x g' (σ.sc q r) a w':=by
 refine ⟨h.bel.trans hb,fun b h1 h2=>(hfr b h1 h2).trans (h.fr b h1 h2),h.dfr,h.sz,fun i=>(h.tm i).ev ev,fun b hs=>(ev.sl b (h.s0 b hs)).1,fun b h1 h2=>?_,hnew,hown,fun id o ho=>?_,fun id o ho hp=>?_⟩
 ·rcases hold b h1 h2 with q|q
  ·exact h.old b h1 q
  ·exact .inr q
 ·simp only [St.sc] at ho
  split at ho
  ·rename_i hr
   obtain ⟨o',h1,rfl⟩:=Option.map_eq_some_iff.1 ho;exact (h.ob id o' h1).ev ev hr
  ·cases ho
 ·simp only [St.sc] at ho
  split at ho
  ·rename_i hr
   obtain ⟨o',h1,rfl⟩:=Option.map_eq_some_iff.1 ho;obtain ⟨e1,e2⟩:=ev.rf id (ev.kp id hr).1;rw [e1,e2];exact h.par id o' h1 hp
  ·cases ho
end
def pAll:Nat->Bool:=fun _=>true
theorem YC(d:D):scC pAll d=d:=by cases d<;>rfl
theorem vO(l:List D):l.map (scC pAll)=l:=by
 induction l with
 | nil=>rfl
 | cons y l ih=>rw [List.map_cons,YC,ih]
theorem Qb(d:D):scE pAll d=d:=by
 cases d<;>first|(simp only [scE,vO];done)|(simp only [scE];exact YC _)
theorem Qe(d:D):scT pAll d=d:=by
 cases d with
 | tup xs=>simp only [scT];congr 1;exact (List.map_congr_left fun y _=>Qb y).trans (List.map_id' xs)
 | mb c x=>simp only [scT,Qb]
 | _=>simp only [scT];exact Qb _
theorem Qd(o:Ob):scO pAll o=o:=by cases o<;>simp only [scO,vO,YC]
theorem sc_all(σ:St):σ.sc pAll pAll=σ:=by
 unfold St.sc;cases σ with
 | mk t b=>
  congr 1
  ·funext i;exact Qe _
  ·funext i
   simp only [pAll,if_true];cases b i with
   | none=>rfl
   | some o=>simp only [Option.map_some];congr 1;exact Qd o
def dv:Value->D
 | .slice none 0 0=>.nil
 | .pointer none=>.np
 | v=>.s v
theorem dv_rep{S:Nat->Prop}{up:Nat->Option Pos}{w:World}{p:Option Pos}(v:Value)(h:v.oneCell'=true):Rep S up w p (dv v) v:=by
 unfold dv;split
 ·exact .nil
 ·exact .np
 ·exact .s h
inductive TK where
 | sl (e k bytes:Nat) (z:List D)
 | st (n:Nat) (fs:List (Nat×Nat×Bool)) (z:List D)
 | sc (z:D)
 | no
def aggT(P:Program)(t:TypeId):Bool:=match P.underlying t with
 | some (.struct _)|some (.array _ _)=>true
 | _=>false
def szT(P:Program)(t:TypeId):Nat:=match P.info? t with
 | some i=>i.size
 | none=>0
def tk(P:Program)(t:TypeId):TK:=
 match P.underlying t,P.info? t with
 | some (.slice e),some i=>match P.info? e with
  | some j=>match j.zero,i.zero with
   | some z,some (.slice none 0 0)=>if z.cells.size=j.size/\0<j.size/\i.size=1/\z.cells.toList.all (·.oneCell')=true then .sl e j.size j.bytes (z.cells.toList.map dv) else .no
   | _,_=>.no
  | none=>.no
 | some (.struct fs),some i=>match i.zero with
  | some (.agg z)=>if z.size=i.size/\z.toList.all (·.oneCell')=true/\fs.toList.all (fun f=>decide (szT P f.type≠0)&&(P.underlying f.type).isSome&&(aggT P f.type||decide (szT P f.type=1)))=true then
    .st i.size (fs.toList.map fun f=>(f.offset,szT P f.type,aggT P f.type)) (z.toList.map dv) else .no
  | _=>.no
 | some (.array _ _),_=>.no
 | some _,some i=>match i.zero with
  | some z=>if i.size=1/\z.oneCell'=true then .sc (dv z) else .no
  | none=>.no
 | none,_=>.no
 | _,none=>.no
def ck(P:Program)(t:TypeId):Option (Bool×Nat×List D):=match tk P t with
 | .sl _ _ _ _=>some (false,1,[.nil])
 | .st n _ z=>some (true,n,z)
 | .sc z=>some (false,1,[z])
 | .no=>none
theorem zF{P:Program}{t e k b:Nat}{z:List D}(h:tk P t=.sl e k b z):P.underlying t=some (.slice e)/\∃ i zv,P.info? e=some i/\i.zero=some zv/\i.size=k/\i.bytes=b/\zv.cells.size=k/\0<k /\
  (∀ u∈zv.cells.toList,u.oneCell'=true)/\z=zv.cells.toList.map dv/\∃ it,P.info? t=some it/\it.size=1/\it.zero=some (.slice none 0 0):=by
 unfold tk at h
 split at h
 ·rename_i e' i h1 h2
  split at h
  ·rename_i j h3
   split at h
   ·rename_i z' h4 h5
    split at h
    ·rename_i hc
     injection h with a1 a2 a3 a4
     subst a1 a2 a3 a4;exact ⟨h1,j,z',h3,h4,rfl,rfl,hc.1,hc.2.1,List.all_eq_true.1 hc.2.2.2,rfl,i,h2,hc.2.2.1,h5⟩
    ·cases h
   ·cases h
  ·cases h
 ·split at h
  ·split at h<;>cases h
  ·cases h
 ·cases h
 ·split at h
  ·split at h<;>cases h
  ·cases h
 ·cases h
 ·cases h
theorem tk_st{P:Program}{t n:Nat}{fs:List (Nat×Nat×Bool)}{z:List D}(h:tk P t=.st n fs z):∃ fields i zv,P.underlying t=some (.struct fields)/\P.info? t=some i/\i.size=n/\i.zero=some (.agg zv)/\zv.size=n /\
  (∀ u∈zv.toList,u.oneCell'=true)/\z=zv.toList.map dv/\fs=fields.toList.map (fun f=>(f.offset,szT P f.type,aggT P f.type))/\∀ f∈fields.toList,szT P f.type≠0/\(P.underlying f.type).isSome=true/\(aggT P f.type=true\/szT P f.type=1):=by
 unfold tk at h
 split at h
 ·split at h
  ·split at h
   ·split at h<;>cases h
   ·cases h
  ·cases h
 ·rename_i fs' i h1 h2
  split at h
  ·rename_i z' h4
   split at h
   ·rename_i hc
    injection h with a1 a2 a3
    subst a1 a2 a3;refine ⟨fs',i,z',h1,h2,rfl,h4,hc.1,List.all_eq_true.1 hc.2.1,rfl,rfl,?_⟩;intro f hf;have:=List.all_eq_true.1 hc.2.2 f hf;simp only [Bool.and_eq_true,Bool.or_eq_true,decide_eq_true_eq] at this
    exact ⟨this.1.1,this.1.2,this.2⟩
   ·cases h
  ·cases h
 ·cases h
 ·split at h
  ·split at h<;>cases h
  ·cases h
 ·cases h
 ·cases h
theorem tk_sc{P:Program}{t:Nat}{z:D}(h:tk P t=.sc z):∃ d i zv,P.underlying t=some d/\aggT P t=false/\P.info? t=some i/\i.size=1/\i.zero=some zv/\zv.oneCell'=true/\z=dv zv:=by
 unfold tk at h
 split at h
 ·split at h
  ·split at h
   ·split at h<;>cases h
   ·cases h
  ·cases h
 ·split at h
  ·split at h<;>cases h
  ·cases h
 ·cases h
 ·rename_i d i n1 n2 n3 h1 h2
  split at h
  ·rename_i z' h3
   split at h
   ·rename_i hc
    injection h with a1
    subst a1;refine ⟨d,i,z',h1,?_,h2,hc.1,h3,hc.2,rfl⟩;unfold aggT;rw [h1];cases d<;>first|rfl|exact absurd rfl (n2 _)|exact absurd rfl (n3 _ _)
   ·cases h
  ·cases h
 ·cases h
 ·cases h
theorem uO{P:Program}{t:TypeId}{d:TypeDesc}(h:P.underlying t=some d)(w:World):(isAgg t).run P w=.ok (aggT P t) w:=by
 unfold isAgg aggT;simp only [Sem.run_bind,run_underlying h,Result.andThen_ok,h];cases d<;>rfl
theorem Wh{P:Program}{t n:Nat}{ag:Bool}{z:List D}(h:ck P t=some (ag,n,z)):(∀ w,(isAgg t).run P w=.ok ag w)/\(∃ i zv,P.info? t=some i/\i.size=n/\i.zero=some zv/\zv.cells.size=n/\(∀ u∈zv.cells.toList,u.oneCell'=true)/\z=zv.cells.toList.map dv)/\(ag=false->n=1):=by
 unfold ck at h
 split at h
 ·rename_i e k b z' hk
  injection h with h;injection h with h1 h;injection h with h2 h3
  subst h1 h2 h3;obtain ⟨hu,-,-,-,-,-,-,-,-,-,-,it,i1,i2,i3⟩:=zF hk;refine ⟨fun w=>?_,⟨it,_,i1,i2,i3,rfl,?_,rfl⟩,fun _=>rfl⟩
  ·rw [uO hu];unfold aggT;rw [hu]
  ·intro u hu'
   simp [Value.cells] at hu'
   subst hu';rfl
 ·rename_i n' fs z' hk
  injection h with h;injection h with h1 h;injection h with h2 h3
  subst h1 h2 h3;obtain ⟨fields,i,zv,a1,a2,a3,a4,a5,a6,a7,-,-⟩:=tk_st hk;refine ⟨fun w=>?_,⟨i,_,a2,a3,a4,a5,a6,a7⟩,fun h=>by cases h⟩
  rw [uO a1];unfold aggT;rw [a1]
 ·rename_i z' hk
  injection h with h;injection h with h1 h;injection h with h2 h3
  subst h1 h2 h3;obtain ⟨d,i,zv,a1,a2,a3,a4,a5,a6,a7⟩:=tk_sc hk;have hc:zv.cells=#[zv]:=by cases zv<;>first|rfl|(simp [Value.oneCell'] at a6)
  refine ⟨fun w=>?_,⟨i,zv,a3,a4,a5,by rw [hc];rfl,?_,by rw [hc,a7];rfl⟩,fun _=>rfl⟩
  ·rw [uO a1,a2]
  ·intro u hu
   rw [hc] at hu
   simp at hu
   subst hu;exact a6
 ·cases h
theorem zZ{P:Program}{t e k b:Nat}{z:List D}(h:tk P t=.sl e k b z)(w:World):(sizeOf e).run P w=.ok k w:=by
 obtain ⟨-,i,zv,h1,-,h2,-⟩:=zF h
 simp [sizeOf,typeInfo,h1,h2]
theorem ck_size{P:Program}{t n:Nat}{ag:Bool}{z:List D}(h:ck P t=some (ag,n,z))(w:World):(sizeOf t).run P w=.ok n w:=by
 obtain ⟨-,⟨i,zv,h1,h2,-⟩,-⟩:=Wh h
 simp [sizeOf,typeInfo,h1,h2]
theorem Vy{P:Program}{t n:Nat}{z:List D}(h:ck P t=some (true,n,z))(w:World)(ad:Addr)(cs:List Value)(hl:cs.length=n)(hc:∀ j v,cs[j]?=some v->w.cell? (ad.add j)=some v) :
  (loadVar t ad).run P w=.ok (.agg cs.toArray) w:=by
 obtain ⟨h1,-,-⟩:=Wh h;unfold loadVar;simp only [Sem.run_bind,h1 w,Result.andThen_ok,if_true,ck_size h w];have:=run_loadCells_list (P:=P) w ad cs hc;rw [hl] at this
 simp [this]
theorem Yh{P:Program}{t n:Nat}{z:List D}(h:ck P t=some (false,n,z))(w:World)(ad:Addr)(v:Value)(hc:w.cell? ad=some v) :
  (loadVar t ad).run P w=.ok v w:=by
 obtain ⟨h1,-,-⟩:=Wh h;unfold loadVar;simp only [Sem.run_bind,h1 w,Result.andThen_ok,Bool.false_eq_true,if_false]
 simp [load,Sem.run,hc]
def ev(σ:St):Operand->D
 | .tmp t=>σ.t t
 | .const v=>if v.oneCell'=true then dv v else .un
 | .func f=>.fn f []
 | .global _=>.un
theorem Xj{x:Cx}{g:Gh}{σ:St}{a:Act}{w:World}(h:Rel x g σ a w)(o:Operand):RT g w (ev σ o) (a.eval o):=by
 cases o with
 | tmp t=>exact h.tm t
 | const v=>
  simp only [ev];split
  ·rename_i hv;exact (dv_rep _ hv).rt
  ·trivial
 | func f=>exact Rep.rt (Rep.fn (fun _=>undef) (fun j d hj=>by simp at hj))
 | global _=>trivial
def oblT:D->Prop
 | .mb c _=>c=true
 | _=>True
def xz:D->D
 | .mb _ x=>x
 | .tup _=>.un
 | d=>d
theorem zP{g:Gh}{w:World}{y:D}{v:Value}(h:RT g w y v)(ho:oblT y):RE g w (xz y) v:=by
 cases y with
 | mb c x=>exact h.1 ho
 | tup xs=>trivial
 | _=>simp only [RT] at h;exact h
def kmin:IntKind->Int
 | .i8=>-128|.i16=>-32768|.i32=>-2147483648|.i64=>-9223372036854775808|_=>0
def kmax:IntKind->Int
 | .i8=>127|.i16=>32767|.i32=>2147483647|.i64=>9223372036854775807
 | .u8=>255|.u16=>65535|.u32=>4294967295|.u64=>18446744073709551615
theorem vD(k:IntKind)(n:Int)(h:kmin k<=n)(h':n<=kmax k):k.wrap n=n:=by
 cases k<;>simp only [kmin,kmax] at h h'<;>simp [IntKind.wrap,IntKind.bits,IntKind.signed,BitVec.toInt_ofInt,BitVec.toNat_ofInt]<;>(try simp only [Int.bmod])<;>(try split)<;>omega
theorem Rep.s_inv{S:Nat->Prop}{up:Nat->Option Pos}{w:World}{p:Option Pos}{v u:Value}(h:Rep S up w p (.s v) u):u=v:=by cases h;rfl
theorem Rep.b{S:Nat->Prop}{up:Nat->Option Pos}{w:World}{p:Option Pos}(b:Bool):Rep S up w p (.s (.bool b)) (.bool b):=.s rfl
theorem Rep.i{S:Nat->Prop}{up:Nat->Option Pos}{w:World}{p:Option Pos}(k:IntKind)(n:Int):Rep S up w p (.s (.int k n)) (.int k n):=.s rfl
theorem Rep.str{S:Nat->Prop}{up:Nat->Option Pos}{w:World}{p:Option Pos}(s:ByteArray):Rep S up w p (.s (.string s)) (.string s):=.s rfl
def aBinI(op:BinOp)(k:IntKind)(m n:Int):Option (Prop×D):=match op with
 | .add=>some (kmin k<=m+n/\m+n<=kmax k,.s (.int k (m+n)))
 | .sub=>some (kmin k<=m - n/\m - n<=kmax k,.s (.int k (m - n)))
 | .mul=>some (kmin k<=m*n/\m*n<=kmax k,.s (.int k (m*n)))
 | .quo=>some (n≠0/\kmin k<=m.tdiv n/\m.tdiv n<=kmax k,.s (.int k (m.tdiv n)))
 | .rem=>some (n≠0,.s (.int k (m.tmod n)))
 | .eql=>some (True,.s (.bool (m==n)))
 | .neq=>some (True,.s (.bool (m != n)))
 | .lss=>some (True,.s (.bool (decide (m<n))))
 | .leq=>some (True,.s (.bool (decide (m<=n))))
 | .gtr=>some (True,.s (.bool (decide (m>n))))
 | .geq=>some (True,.s (.bool (decide (m ≥ n))))
 | .shl=>some (0<=n/\n<=(k.bits:Int)/\kmin k<=m*2 ^ n.toNat/\m*2 ^ n.toNat<=kmax k,.s (.int k (m*2 ^ n.toNat)))
 | _=>none
theorem aBinI_ok{P:Program}{op:BinOp}{t:TypeId}{k:IntKind}{m n:Int}{ob:Prop}{d:D}(h:aBinI op k m n=some (ob,d))(ho:ob)(xo yo:Operand)(g:Gh)(w:World) :
  ∃ r,(do eqGuard op t xo yo (.int k m) (.int k n);binOp op t (.int k m) (.int k n):Sem Value).run P w=.ok r w/\Rep g.S g.up w none d r:=by
 cases op<;>simp only [aBinI] at h<;>try (cases h;done)
 all_goals
  injection h with h
  injection h with h1 h2
  subst h1 h2
 ·exact ⟨_,by simp [go_sem,vD k _ ho.1 ho.2],.i _ _⟩
 ·exact ⟨_,by simp [go_sem,vD k _ ho.1 ho.2],.i _ _⟩
 ·exact ⟨_,by simp [go_sem,vD k _ ho.1 ho.2],.i _ _⟩
 ·exact ⟨_,by simp [go_sem,ho.1,vD k _ ho.2.1 ho.2.2],.i _ _⟩
 ·exact ⟨_,by simp [go_sem,ho],.i _ _⟩
 ·exact ⟨_,by simp [go_sem,shift_shl k k m n ho.1 ho.2.1,vD k _ ho.2.2.1 ho.2.2.2],.i _ _⟩
 all_goals exact ⟨_,by simp [go_sem],.b _⟩
def aBinS(op:BinOp)(x y:ByteArray):Option (Prop×D):=match op with
 | .add=>some (((x.size+y.size:Nat):Int)<=9223372036854775807,.s (.string (x++y)))
 | .eql=>some (True,.s (.bool (x.toList==y.toList)))
 | .neq=>some (True,.s (.bool (!(x.toList==y.toList))))
 | .lss=>some (True,.s (.bool (Op.bytesLess x.toList y.toList)))
 | .leq=>some (True,.s (.bool (Op.bytesLess x.toList y.toList||x.toList==y.toList)))
 | .gtr=>some (True,.s (.bool (!(Op.bytesLess x.toList y.toList||x.toList==y.toList))))
 | .geq=>some (True,.s (.bool (!Op.bytesLess x.toList y.toList)))
 | _=>none
theorem aBinS_ok{P:Program}{op:BinOp}{t:TypeId}{x y:ByteArray}{ob:Prop}{d:D}(h:aBinS op x y=some (ob,d))(ho:ob)(xo yo:Operand)(g:Gh)(w:World) :
  ∃ r,(do eqGuard op t xo yo (.string x) (.string y);binOp op t (.string x) (.string y):Sem Value).run P w=.ok r w/\Rep g.S g.up w none d r:=by
 cases op<;>simp only [aBinS] at h<;>try (cases h;done)
 all_goals
  injection h with h
  injection h with h1 h2
  subst h1 h2
 ·refine ⟨_,?_,.str _⟩
  have:¬ (9223372036854775807<((x.size+y.size:Nat):Int)):=by omega
  simp only [Sem.run_bind,eqGuard_at_string,Sem.run_pure,Result.andThen_ok,binOp,Op.stringOp,IntKind.max_i64];rw [if_neg (by omega)]
  rfl
 all_goals
  refine ⟨_,?_,.b _⟩;simp only [Sem.run_bind,eqGuard_at_string,Sem.run_pure,Result.andThen_ok,binOp,Op.stringOp]
def Y1(P:Program)(t:TypeId):Nat->Bool
 | 0=>match P.underlying t with|some (.int _)=>true|_=>false
 | 1=>match P.underlying t with|some .string=>true|_=>false
 | _=>match P.underlying t with|some .bool=>true|_=>false
def flatB(P:Program):List Field->Nat->List Nat->Bool
 | [],_,[]=>true
 | f::fs,off,k::ks=>(f.name != "_")&&(f.offset==off)&&Y1 P f.type k&&flatB P fs (off+1) ks
 | _,_,_=>false
def sqB(P:Program)(t:TypeId)(ks:List Nat):Bool:=!P.eqGuardType P.depth t&&(match P.underlying t with|some (.struct fs)=>!P.stoodInHeld t&&flatB P fs.toList 0 ks|_=>false)
theorem ite_some{α:Type}{p:Prop} [Decidable p] {o:Option α}{a:α}(h:(if p then o else none)=some a):p/\o=some a:=by
 by_cases q:p
 ·exact ⟨q,by rw [if_pos q] at h;exact h⟩
 ·rw [if_neg q] at h;cases h
def eqCs:List D->List D->Option (List Nat×Bool)
 | [],[]=>some ([],true)
 | .s (.int k a)::xs,.s (.int k' b)::ys=>if k=k' then (eqCs xs ys).map fun r=>(0::r.1,(a==b)&&r.2) else none
 | .s (.string a)::xs,.s (.string b)::ys=>(eqCs xs ys).map fun r=>(1::r.1,(a.toList==b.toList)&&r.2)
 | .s (.bool a)::xs,.s (.bool b)::ys=>(eqCs xs ys).map fun r=>(2::r.1,(a==b)&&r.2)
 | _,_=>none
theorem Q1{P:Program}{t:TypeId}{k:Nat}(h:Y1 P t k=true)(w:World)(cs:Array Value)(off:Nat)(v:Value)(hv:cs[off]?=some v):(part t cs off).run P w=.ok v w:=by
 unfold Y1 at h
 split at h<;>(split at h<;>try (cases h;done))<;>(rename_i hu;simp [part,Sem.run_bind,uO hu,hv,aggT,hu])
theorem eqCs_run{P:Program}{g:Gh}{w:World}(d:Nat):∀ (fs:List Field) (xs ys:List D) (us vs:List Value) (ks:List Nat) (r:Bool) (pu pv:List Value),eqCs xs ys=some (ks,r)->flatB P fs pu.length ks=true->pu.length=pv.length ->
  RCs g w xs us->RCs g w ys vs->(Op.eqFields (d+1) (pu++us).toArray (pv++vs).toArray fs).run P w=.ok r w:=by
 intro fs
 induction fs with
 | nil=>
  intro xs ys us vs ks r pu pv h hf hl hx hy;unfold eqCs at h
  split at h
  ·injection h with h;injection h with h1 h2;subst h1 h2;rfl
  all_goals
   first
   | (cases h;done)
   | (obtain ⟨q,-,hq⟩:=Option.map_eq_some_iff.1 h;injection hq with h1 h2;subst h1;cases hf)
   | (split at h<;>first|(cases h;done)|(obtain ⟨q,-,hq⟩:=Option.map_eq_some_iff.1 h;injection hq with h1 h2;subst h1;cases hf))
 | cons f fs ih=>
  intro xs ys us vs ks r pu pv h hf hl hx hy;have step:∀ (x y:D) (xs' ys':List D) (k:Nat) (ks':List Nat) (b r':Bool),xs=x::xs'->ys=y::ys'->ks=k::ks'->r=(b&&r')->eqCs xs' ys'=some (ks',r') ->
    (∀ u v,RC g w none x u->RC g w none y v->Y1 P f.type k=true->(Op.equalIn (d+1) f.type u v).run P w=.ok b w)->(Op.eqFields (d+1) (pu++us).toArray (pv++vs).toArray (f::fs)).run P w=.ok r w:=by
   rintro x y xs' ys' k ks' b r' rfl rfl rfl rfl he hq
   obtain ⟨hxl,hx'⟩:=hx;obtain ⟨hyl,hy'⟩:=hy
   match us,hxl with
   | u::us,hxl=>
    match vs,hyl with
    | v::vs,hyl=>
     simp only [flatB,Bool.and_eq_true,bne_iff_ne,ne_eq,beq_iff_eq] at hf
     obtain ⟨⟨⟨f1,f2⟩,f3⟩,f4⟩:=hf;have pu1:((pu++u::us).toArray)[f.offset]?=some u:=by rw [f2];simp
     have pv1:((pv++v::vs).toArray)[f.offset]?=some v:=by rw [f2,hl];simp
     have e1:=hq u v (hx' 0 _ _ rfl rfl) (hy' 0 _ _ rfl rfl) f3;have i1:=ih xs' ys' us vs ks' r' (pu++[u]) (pv++[v]) he (by simpa using f4) (by simp [hl]) ⟨by simpa using hxl,fun j c z a b=>hx' (j+1) c z (by simpa using a) (by simpa using b)⟩ ⟨by simpa using hyl,fun j c z a b=>hy' (j+1) c z (by simpa using a) (by simpa using b)⟩
     rw [List.append_assoc,List.append_assoc,List.singleton_append,List.singleton_append] at i1
     unfold Op.eqFields;rw [if_pos f1];simp only [Sem.run_bind,Q1 f3 w _ _ _ pu1,Q1 f3 w _ _ _ pv1,Result.andThen_ok,e1];cases b
     ·rfl
     ·simp only [Bool.not_true,Bool.false_eq_true,if_false,Bool.true_and]
      exact i1
  unfold eqCs at h
  split at h
  ·injection h with h;injection h with h1 h2;subst h1;cases hf
  ·obtain ⟨hkk,hm⟩:=ite_some h
   subst hkk;obtain ⟨q,hq,e⟩:=Option.map_eq_some_iff.1 hm;injection e with e1 e2
   refine step _ _ _ _ _ _ _ _ rfl rfl e1.symm e2.symm hq fun u v hu hv hk=>?_
   obtain rfl:=Rep.s_inv hu;obtain rfl:=Rep.s_inv hv;simp only [Y1] at hk
   split at hk
   ·rename_i hun;exact run_equalIn_int w d _ _ _ _ _ hun
   ·cases hk
  ·obtain ⟨q,hq,e⟩:=Option.map_eq_some_iff.1 h
   injection e with e1 e2
   refine step _ _ _ _ _ _ _ _ rfl rfl e1.symm e2.symm hq fun u v hu hv hk=>?_
   obtain rfl:=Rep.s_inv hu;obtain rfl:=Rep.s_inv hv;simp only [Y1] at hk
   split at hk
   ·rename_i hun;exact run_equalIn_string w d _ _ _ hun
   ·cases hk
  ·obtain ⟨q,hq,e⟩:=Option.map_eq_some_iff.1 h
   injection e with e1 e2
   refine step _ _ _ _ _ _ _ _ rfl rfl e1.symm e2.symm hq fun u v hu hv hk=>?_
   obtain rfl:=Rep.s_inv hu;obtain rfl:=Rep.s_inv hv;simp only [Y1] at hk
   split at hk
   ·rename_i hun;exact run_equalIn_bool' w d _ _ _ hun
   ·cases hk
  ·cases h
def aBin(P:Program)(op:BinOp)(t:TypeId)(x y:D):Option (Prop×D):=match x,y with
 | .s (.int k m),.s (.int k' n)=>match aBinI op k m n with
  | some (ob,d)=>some (k=k'/\ob,d)
  | none=>none
 | .s (.string a),.s (.string b)=>aBinS op a b
 | .s (.bool a),.s (.bool b)=>match op with
  | .eql=>some (P.underlying t=some .bool,.s (.bool (a==b)))
  | .neq=>some (P.underlying t=some .bool,.s (.bool (!(a==b))))
  | _=>none
 | .pt _,.np=>match op with
  | .eql=>some (∃ e,P.underlying t=some (.pointer e),.s (.bool false))
  | .neq=>some (∃ e,P.underlying t=some (.pointer e),.s (.bool true))
  | _=>none
 | .bx _ _,.np=>match op with
  | .eql=>some (∃ e,P.underlying t=some (.pointer e),.s (.bool false))
  | .neq=>some (∃ e,P.underlying t=some (.pointer e),.s (.bool true))
  | _=>none
 | .np,.np=>match op with
  | .eql=>some (∃ e,P.underlying t=some (.pointer e),.s (.bool true))
  | .neq=>some (∃ e,P.underlying t=some (.pointer e),.s (.bool false))
  | _=>none
 | .ag xs,.ag ys=>match op,eqCs xs ys with
  | .eql,some (ks,r)=>some (sqB P t ks=true,.s (.bool r))
  | .neq,some (ks,r)=>some (sqB P t ks=true,.s (.bool (!r)))
  | _,_=>none
 | .sl _ rows,.nil=>match op with
  | .eql=>some (rows.isEmpty=false/\∃ e,P.underlying t=some (.slice e),.s (.bool false))
  | .neq=>some (rows.isEmpty=false/\∃ e,P.underlying t=some (.slice e),.s (.bool true))
  | _=>none
 | .nil,.nil=>match op with
  | .eql=>some (∃ e,P.underlying t=some (.slice e),.s (.bool true))
  | .neq=>some (∃ e,P.underlying t=some (.slice e),.s (.bool false))
  | _=>none
 | _,_=>none
theorem aBin_ok{P:Program}{op:BinOp}{t:TypeId}{x y:D}{ob:Prop}{d:D}(h:aBin P op t x y=some (ob,d))(ho:ob){g:Gh}{w:World}{u v:Value}(hx:RE g w x u)(hy:RE g w y v)(xo yo:Operand) :
  ∃ r,(do eqGuard op t xo yo u v;binOp op t u v:Sem Value).run P w=.ok r w/\Rep g.S g.up w none d r:=by
 unfold aBin at h
 split at h
 ·rename_i k m k' n
  split at h
  ·rename_i ob' d' h'
   injection h with h;injection h with h1 h2
   subst h1 h2;obtain ⟨rfl,ho⟩:=ho;obtain rfl:=Rep.s_inv hx;obtain rfl:=Rep.s_inv hy;exact aBinI_ok h' ho xo yo g w
  ·cases h
 ·obtain rfl:=Rep.s_inv hx
  obtain rfl:=Rep.s_inv hy;exact aBinS_ok h ho xo yo g w
 ·obtain rfl:=Rep.s_inv hx
  obtain rfl:=Rep.s_inv hy;split at h<;>try (cases h;done)
  all_goals
   injection h with h;injection h with h1 h2
   subst h1 h2;refine ⟨_,?_,.b _⟩;simp only [Sem.run_bind,eqGuard_at_bool,Sem.run_pure,Result.andThen_ok,binOp,run_equal_bool w t _ _ ho]
 ·cases hx
  cases hy;split at h<;>try (cases h;done)
  all_goals
   injection h with h;injection h with h1 h2
   subst h1 h2;obtain ⟨e,ho⟩:=ho;refine ⟨_,?_,.b _⟩;simp only [Sem.run_bind,eqGuard_at_pointer,Sem.run_pure,Result.andThen_ok,binOp,run_equal_pointer_nil w t _ (show P.underlying t=some (.pointer (P.pointee t)) by unfold Program.pointee;rw [ho])]
   rfl
 ·obtain ⟨b,-,rfl⟩:=hx
  cases hy;split at h<;>try (cases h;done)
  all_goals
   injection h with h;injection h with h1 h2
   subst h1 h2;obtain ⟨e,ho⟩:=ho;refine ⟨_,?_,.b _⟩;simp only [Sem.run_bind,eqGuard_at_pointer,Sem.run_pure,Result.andThen_ok,binOp,run_equal_pointer_nil w t _ (show P.underlying t=some (.pointer (P.pointee t)) by unfold Program.pointee;rw [ho])]
   rfl
 ·cases hx
  cases hy;split at h<;>try (cases h;done)
  all_goals
   injection h with h;injection h with h1 h2
   subst h1 h2;obtain ⟨e,ho⟩:=ho;refine ⟨_,?_,.b _⟩;simp only [Sem.run_bind,eqGuard_at_pointer,Sem.run_pure,Result.andThen_ok,binOp,run_equal_pointer_nil w t _ (show P.underlying t=some (.pointer (P.pointee t)) by unfold Program.pointee;rw [ho])]
   rfl
 ·rename_i xs ys
  obtain ⟨us,rfl,hx⟩:=hx;obtain ⟨vs,rfl,hy⟩:=hy;have key:∀ ks r,eqCs xs ys=some (ks,r)->sqB P t ks=true->(eqGuard op t xo yo (.agg us.toArray) (.agg vs.toArray)).run P w=.ok () w/\(Op.equalIn 10000 t (.agg us.toArray) (.agg vs.toArray)).run P w=.ok r w:=by
   intro ks r he hs;unfold sqB at hs
   simp only [Bool.and_eq_true,Bool.not_eq_true'] at hs
   obtain ⟨s1,s2⟩:=hs;split at s2
   ·rename_i fs hu
    simp only [Bool.and_eq_true,Bool.not_eq_true'] at s2
    have hfs:P.fieldsOf t=fs:=by unfold Program.fieldsOf;rw [hu]
    refine ⟨run_eqGuard_agg w op t xo yo _ _ s1,?_⟩;rw [run_equalIn_agg w 9999 t _ _ (by rw [hfs];exact hu) s2.1,hfs]
    have:=eqCs_run (P:=P) (g:=g) (w:=w) 9998 fs.toList xs ys us vs ks r [] [] he s2.2 rfl hx hy
    simpa using this
   ·cases s2
  split at h
  ·rename_i ks r he
   injection h with h;injection h with h1 h2
   subst h1 h2;obtain ⟨k1,k2⟩:=key ks r he ho;exact ⟨_,by simp only [Sem.run_bind,k1,Result.andThen_ok,run_eql_struct,k2],.b _⟩
  ·rename_i ks r he
   injection h with h;injection h with h1 h2
   subst h1 h2;obtain ⟨k1,k2⟩:=key ks r he ho;exact ⟨_,by simp only [Sem.run_bind,k1,Result.andThen_ok,run_neq_struct,k2],.b _⟩
  ·cases h
 ·rename_i k rows
  have hx:Rep g.S g.up w none (.sl k rows) u:=hx;have hy:Rep g.S g.up w none .nil v:=hy;split at h<;>try (cases h;done)
  all_goals
   injection h with h;injection h with h1 h2
   subst h1 h2;obtain ⟨hne,e,ho⟩:=ho;cases hy;cases hx with
   | sl0 _=>cases hne
   | sl us c1 c2 c3 c4 c5=>
    refine ⟨_,?_,.b _⟩;simp only [Sem.run_bind,eqGuard_at_slice,Sem.run_pure,Result.andThen_ok,binOp,run_equal_slice_nil w t e _ _ _ ho]
    rfl
 ·have hx:Rep g.S g.up w none .nil u:=hx
  have hy:Rep g.S g.up w none .nil v:=hy;split at h<;>try (cases h;done)
  all_goals
   injection h with h;injection h with h1 h2
   subst h1 h2;obtain ⟨e,ho⟩:=ho;cases hy;cases hx;refine ⟨_,?_,.b _⟩;simp only [Sem.run_bind,eqGuard_at_slice,Sem.run_pure,Result.andThen_ok,binOp,run_equal_slice_nil w t e _ _ _ ho]
   rfl
 ·cases h
def aUn(op:UnOp)(x:D):Option (Prop×D):=match op,x with
 | .not,.s (.bool b)=>some (True,.s (.bool (!b)))
 | .neg,.s (.int k n)=>some (kmin k<=0 - n/\0 - n<=kmax k,.s (.int k (0 - n)))
 | _,_=>none
theorem aUn_ok{P:Program}{op:UnOp}{x:D}{ob:Prop}{d:D}(h:aUn op x=some (ob,d))(ho:ob){g:Gh}{w:World}{u:Value}(hx:RE g w x u) :
  ∃ r,(Op.unary op u).run P w=.ok r w/\Rep g.S g.up w none d r:=by
 unfold aUn at h
 split at h<;>try (cases h;done)
 all_goals
  injection h with h;injection h with h1 h2
  subst h1 h2;obtain rfl:=Rep.s_inv hx
 ·exact ⟨_,by simp [Op.unary],.b _⟩
 ·exact ⟨_,by simp only [Op.unary,Op.intArith,vD _ _ ho.1 ho.2,Sem.run_pure],.i _ _⟩
theorem add_lit(b o n:Nat):(⟨b,o,none⟩:Addr).add n=⟨b,o+n,none⟩:=Addr.add_lit b o n
theorem ym{α:Type}{l:List α}{j:Nat}{x d:α}(h:l[j]?=some x):l.getD j d=x:=by rw [List.getD_eq_getElem?_getD,h];rfl
theorem wz{α:Type}{l:Array α}{j:Nat}{d:α}(h:j<l.size):l[j]?=some (l.getD j d):=by rw [Array.getD_eq_getD_getElem?,Array.getElem?_eq_getElem h];rfl
def ldC:D->D
 | .osl _ _ _=>.un
 | .opa _ _=>.un
 | d=>d
theorem Rep.free{S:Nat->Prop}{up:Nat->Option Pos}{w:World}{p:Option Pos}{d:D}{v:Value}(h:Rep S up w p d v)(h1:∀ e k rows,d≠.osl e k rows)(h2:∀ k row,d≠.opa k row)(p':Option Pos):Rep S up w p' d v:=by
 cases h with
 | s h=>exact .s h
 | nil=>exact .nil
 | np=>exact .np
 | sl0 h=>exact .sl0 h
 | sl us a b c d e=>exact .sl us a b c d e
 | pt us a b=>exact .pt us a b
 | fn us a=>exact .fn us a
 | osl0=>exact absurd rfl (h1 _ _ _)
 | osl=>exact absurd rfl (h1 _ _ _)
 | opa=>exact absurd rfl (h2 _ _)
theorem ldC_ok{g:Gh}{w:World}{p:Option Pos}{d:D}{v:Value}(h:RC g w p d v):RC g w none (ldC d) v:=by
 have one:=h.one;cases d with
 | osl e k rows=>exact one
 | opa k row=>exact one
 | bx id off=>exact h
 | el id k i off=>exact h
 | bs id k n=>exact h
 | un=>exact h
 | ag _=>exact h
 | tup _=>exact h
 | mb _ _=>exact h
 | _=>exact (Rep.free (p:=p) h (fun _ _ _ q=>by cases q) (fun _ _ q=>by cases q) none).rc
def Y2(P:Program)(t:TypeId)(row:List D)(off:Nat):Option (Prop×D):=match ck P t with
 | some (true,n,_)=>some (off+n<=row.length,.ag (((row.drop off).take n).map ldC))
 | some (false,_,_)=>match row.drop off with
  | c::_=>some (True,ldC c)
  | []=>none
 | none=>none
def Xa(P:Program)(σ:St)(t:TypeId)(x:D):Option (Prop×D):=match x with
 | .pt row=>Y2 P t row 0
 | .bx id off=>match σ.b id with
  | some (.box row)=>Y2 P t row off
  | _=>none
 | .el id k i off=>match σ.b id with
  | some (.arr _ k' rows)=>match Y2 P t (rows.getD i []) off with
   | some (ob,y)=>some (k'=k/\i<rows.length/\ob,y)
   | none=>none
  | some (.hol _ k' _ i0 c0 r)=>match ck P t with
   | some (false,_,_)=>some (k'=k/\i=i0/\off=c0,ldC r)
   | _=>none
  | some (.rw _ k' _ i0 rr)=>match Y2 P t rr off with
   | some (ob,y)=>some (k'=k/\i=i0/\ob,y)
   | none=>none
  | _=>none
 | _=>none
theorem Y3{P:Program}{t:TypeId}{row:List D}{off:Nat}{z:D}{ob:Prop}(h:Y2 P t row off=some (ob,z))(ho:ob){g:Gh}{w:World}{b o:Nat}{us:Nat->Value}{ps:Nat->Option Pos}
  (h1:∀ (j:Nat) (d:D),row[j]?=some d->w.cell? ⟨b,o+j,none⟩=some (us j)/\RC g w (ps j) d (us j)) :
  ∃ r,(loadVar t ⟨b,o+off,none⟩).run P w=.ok r w/\RE g w z r:=by
 unfold Y2 at h
 split at h
 ·rename_i n _ hk
  injection h with h;injection h with e1 e2
  subst e1 e2
  let cs:=(List.range n).map fun j=>us (off+j)
  refine ⟨.agg cs.toArray,Vy hk w _ cs (by simp [cs]) (fun j v hj=>?_),cs,rfl,by simp [cs,List.length_take,List.length_drop];omega,fun j y u hy hu=>?_⟩
  ·have hjn:j<n:=by
    rcases Nat.lt_or_ge j n with q|q
    ·exact q
    ·rw [List.getElem?_eq_none (by simpa [cs] using q)] at hj;cases hj
   have hv:us (off+j)=v:=by simpa [cs,hjn] using hj
   subst hv;rw [add_lit,Nat.add_assoc];exact (h1 (off+j) (row[off+j]'(by omega)) (by simp)).1
  ·rw [List.getElem?_map,List.getElem?_take] at hy
   split at hy
   ·rename_i hjn
    rw [List.getElem?_drop] at hy
    cases hj:row[off+j]? with
    | none=>rw [hj] at hy;cases hy
    | some d=>
     rw [hj] at hy
     injection hy with hy
     subst hy;have hv:us (off+j)=u:=by simpa [cs,hjn] using hu
     subst hv;exact ldC_ok (h1 _ d hj).2
   ·cases hy
 ·rename_i n _ hk
  split at h
  ·rename_i c row' hd
   injection h with h;injection h with e1 e2
   subst e1 e2;have hc:row[off]?=some c:=by have:=congrArg (fun l=>l[0]?) hd;simpa using this
   exact ⟨us off,Yh hk w _ _ (h1 off c hc).1,(ldC_ok (h1 off c hc).2).re⟩
  ·cases h
 ·cases h
theorem xaJ{x:Cx}{σ:St}{t:TypeId}{y z:D}{ob:Prop}(h:Xa x.P σ t y=some (ob,z))(ho:ob){g:Gh}{a:Act}{w:World}(hr:Rel x g σ a w){u:Value}(hu:RE g w y u) :
  ∃ r,(Instr.loadAt t u).run x.P w=.ok r w/\RE g w z r:=by
 unfold Xa at h
 split at h
 ·have hu:Rep g.S g.up w none (.pt _) u:=hu
  cases hu with
  | @pt _ _ b off us h1 h2=>
   obtain ⟨r,r1,r2⟩:=Y3 (g:=g) (w:=w) (b:=b) (o:=off) (us:=us) (ps:=fun _=>none) h ho (fun j d hj=>⟨(h1 j d hj).2,(h2 j d hj).rc⟩)
   exact ⟨r,by simp only [Instr.loadAt,Sem.run_bind,Instr.sureAddr,Sem.run_pure,Result.andThen_ok];exact r1,r2⟩
 ·rename_i id off
  split at h
  ·rename_i row hb
   obtain ⟨b,cs,ty,b1,b2,b3,b4,b5⟩:=hr.ob id _ hb;obtain ⟨b',c1,rfl⟩:=hu;rw [b1] at c1;injection c1 with c1;subst c1
   obtain ⟨r,r1,r2⟩:=Y3 (g:=g) (w:=w) (b:=b) (o:=0) (us:=fun j=>cs.getD j undef) (ps:=fun j=>some (.cell b j)) h ho (fun j d hj=>⟨by
    have hl:j<cs.size:=by rw [b4];exact (List.getElem?_eq_some_iff.1 hj).1
    simp only [World.cell?,b3,Nat.zero_add];rw [if_neg (by simp)]
    exact wz hl,b5 j d hj⟩)
   rw [Nat.zero_add] at r1
   exact ⟨r,by simp only [Instr.loadAt,Sem.run_bind,Instr.sureAddr,Sem.run_pure,Result.andThen_ok];exact r1,r2⟩
  ·cases h
 ·rename_i id k i off
  split at h
  ·rename_i e k' rows hb
   split at h
   ·rename_i ob' y' h'
    injection h with h;injection h with e1 e2
    subst e1 e2;obtain ⟨rfl,hi,ho⟩:=ho;have hR:=hr.ob id _ hb;obtain ⟨b',c1,rfl⟩:=hu;have hR:Rep g.S g.up w (some (.root id)) (.osl e k' rows) (.slice ((g.β id).map fun b=>⟨b,0,none⟩) rows.length (g.κ id)):=hR
    rw [c1,Option.map_some] at hR
    cases hR with
    | @osl _ _ _ _ _ _ cs q1 q2 q3 q4 q5 q6 q7=>
     have hg:rows[i]?=some rows[i]:=List.getElem?_eq_getElem hi;rw [ym hg] at h'
     obtain ⟨r,r1,r2⟩:=Y3 (g:=g) (w:=w) (b:=b') (o:=i*k') (us:=fun j=>cs.getD (i*k'+j) undef) (ps:=fun j=>some (.cell b' (i*k'+j))) h' ho (fun j d hj=>⟨by
      have hjk:j<k':=by rw [<- q6 i _ hg];exact (List.getElem?_eq_some_iff.1 hj).1
      have hlt:i*k'+j<cs.size:=by
       have h1:(i+1)*k'<=g.κ id*k':=Nat.mul_le_mul_right _ (by omega)
       rw [Nat.add_mul,Nat.one_mul] at h1
       omega
      simp only [World.cell?,q2];rw [if_neg (by simp)]
      exact wz hlt,(q7 i j _ d hg hj).rc⟩)
     exact ⟨r,by simp only [Instr.loadAt,Sem.run_bind,Instr.sureAddr,Sem.run_pure,Result.andThen_ok];exact r1,r2⟩
   ·cases h
  ·rename_i e k' rows i0 c0 r hb
   split at h
   ·rename_i n _ hk
    injection h with h;injection h with e1 e2
    subst e1 e2;obtain ⟨rfl,rfl,rfl⟩:=ho;obtain ⟨b,cs,h1,h2,h3,h4,h5,h6,h7,h8,h9,h10,h11⟩:=hr.ob id _ hb;obtain ⟨b',c1,rfl⟩:=hu;rw [h1] at c1;injection c1 with c1;subst c1
    have hlt:i*k'+off<cs.size:=by
     have:(i+1)*k'<=g.κ id*k':=Nat.mul_le_mul_right _ (by omega)
     rw [Nat.add_mul,Nat.one_mul] at this
     omega
    refine ⟨_,?_,(ldC_ok h10).re⟩;simp only [Instr.loadAt,Sem.run_bind,Instr.sureAddr,Sem.run_pure,Result.andThen_ok];refine Yh hk w _ _ ?_;simp only [World.cell?,h3];rw [if_neg (by simp)]
    exact wz hlt
   ·cases h
  ·rename_i e k' rows i0 rr hb
   split at h
   ·rename_i ob' y' h'
    injection h with h;injection h with e1 e2
    subst e1 e2;obtain ⟨rfl,rfl,ho⟩:=ho;obtain ⟨b,cs,h1,h2,h3,h4,h5,h6,h7,h8,h9,h10,h11⟩:=hr.ob id _ hb;obtain ⟨b',c1,rfl⟩:=hu;rw [h1] at c1;injection c1 with c1;subst c1
    obtain ⟨r,r1,r2⟩:=Y3 (g:=g) (w:=w) (b:=b) (o:=i*k') (us:=fun j=>cs.getD (i*k'+j) undef) (ps:=fun j=>some (.cell b (i*k'+j))) h' ho (fun j d hj=>⟨by
     have hjk:j<k':=by rw [<- h9];exact (List.getElem?_eq_some_iff.1 hj).1
     have hlt:i*k'+j<cs.size:=by
      have h1:(i+1)*k'<=g.κ id*k':=Nat.mul_le_mul_right _ (by omega)
      rw [Nat.add_mul,Nat.one_mul] at h1
      omega
     simp only [World.cell?,h3];rw [if_neg (by simp)]
     exact wz hlt,h10 j d hj⟩)
    exact ⟨r,by simp only [Instr.loadAt,Sem.run_bind,Instr.sureAddr,Sem.run_pure,Result.andThen_ok];exact r1,r2⟩
   ·cases h
  ·cases h
 ·cases h
theorem szT_run{P:Program}{t:TypeId}(h:szT P t≠0)(w:World):(sizeOf t).run P w=.ok (szT P t) w:=by
 unfold szT at h ⊢
 cases hi:P.info? t with
 | none=>rw [hi] at h;exact absurd rfl h
 | some i=>simp [sizeOf,typeInfo,hi]
theorem Rep.pt_shape{S:Nat->Prop}{up:Nat->Option Pos}{w:World}{p:Option Pos}{row:List D}{u:Value}(h:Rep S up w p (.pt row) u):∃ b off,u=.pointer (some ⟨b,off,none⟩):=by
 cases h with
 | pt us h1 h2=>exact ⟨_,_,rfl⟩
theorem Rep.pt_drop{S:Nat->Prop}{up:Nat->Option Pos}{w:World}{p:Option Pos}{row:List D}{b off:Nat}(h:Rep S up w p (.pt row) (.pointer (some ⟨b,off,none⟩)))(n:Nat):Rep S up w p (.pt (row.drop n)) (.pointer (some ⟨b,off+n,none⟩)):=by
 cases h with
 | pt us h1 h2=>
  refine .pt (fun j=>us (n+j)) (fun j d hj=>?_) (fun j d hj=>?_)
  ·rw [List.getElem?_drop] at hj
   have:=h1 _ _ hj;rw [<- Nat.add_assoc] at this;exact this
  ·rw [List.getElem?_drop] at hj
   exact h2 _ _ hj
theorem Yr{P:Program}{s n f off sz:Nat}{fs:List (Nat×Nat×Bool)}{z:List D}{ag:Bool}(hk:tk P s=.st n fs z)(hf:fs[f]?=some (off,sz,ag))(b o:Nat)(w:World) :
  (Instr.fieldAt s (.pointer (some ⟨b,o,none⟩)) f).run P w=.ok (.pointer (some ⟨b,o+off,none⟩)) w:=by
 obtain ⟨fields,i,zv,a1,a2,a3,a4,a5,a6,a7,a8,a9⟩:=tk_st hk;rw [a8,List.getElem?_map] at hf
 cases hf':fields.toList[f]? with
 | none=>rw [hf'] at hf;cases hf
 | some fd=>
  rw [hf'] at hf
  injection hf with hf;injection hf with f1 f2;injection f2 with f2 f3
  subst f1;have hne:=(a9 fd (List.mem_of_getElem? hf')).1;simp only [Instr.fieldAt,Sem.run_bind,run_underlying a1,Result.andThen_ok,Array.getElem?_toList ▸ hf',Instr.sureAddr,Sem.run_pure,fieldPlace,szT_run hne];rw [if_neg hne]
  simp [Addr.add_lit]
def v8(P:Program)(s:TypeId)(x:D)(f:Nat):Option (Prop×D):=match tk P s with
 | .st _ fs _=>match fs[f]?,x with
  | some (off,_,_),.pt row=>some (True,.pt (row.drop off))
  | some (off,_,_),.bx id o=>some (True,.bx id (o+off))
  | some (off,_,_),.el id k i o=>some (True,.el id k i (o+off))
  | _,_=>none
 | _=>none
theorem xat{P:Program}{s:TypeId}{x y:D}{f:Nat}{ob:Prop}(h:v8 P s x f=some (ob,y)){g:Gh}{w:World}{u:Value}(hu:RE g w x u) :
  ∃ r,(Instr.fieldAt s u f).run P w=.ok r w/\RE g w y r:=by
 unfold v8 at h
 split at h
 ·rename_i n fs z hk
  split at h
  ·rename_i off sz ag row hf
   injection h with h;injection h with e1 e2
   subst e1 e2;have hu:Rep g.S g.up w none (.pt row) u:=hu;obtain ⟨b,o,rfl⟩:=hu.pt_shape;exact ⟨_,Yr hk hf _ _ w,Rep.pt_drop hu off⟩
  ·rename_i off sz ag id o hf
   injection h with h;injection h with e1 e2
   subst e1 e2;obtain ⟨b,h1,rfl⟩:=hu;exact ⟨_,Yr hk hf _ _ w,b,h1,rfl⟩
  ·rename_i off sz ag id k i o hf
   injection h with h;injection h with e1 e2
   subst e1 e2;obtain ⟨b,h1,rfl⟩:=hu;exact ⟨_,Yr hk hf _ _ w,b,h1,by rw [Nat.add_assoc]⟩
  ·cases h
 ·cases h
def U1(P:Program)(s:TypeId)(x:D)(f:Nat):Option (Prop×D):=match tk P s with
 | .st _ fs _=>match fs[f]?,x with
  | some (off,sz,true),.ag xs=>some (off+sz<=xs.length,.ag ((xs.drop off).take sz))
  | some (off,_,false),.ag xs=>match xs.drop off with
   | c::_=>some (True,c)
   | []=>none
  | _,_=>none
 | _=>none
theorem aField_ok{P:Program}{s:TypeId}{x y:D}{f:Nat}{ob:Prop}(h:U1 P s x f=some (ob,y))(ho:ob){g:Gh}{w:World}{u:Value}(hu:RE g w x u) :
  ∃ r,(Instr.field s u f).run P w=.ok r w/\RE g w y r:=by
 unfold U1 at h
 split at h
 ·rename_i n fs z hk
  obtain ⟨fields,i,zv,a1,a2,a3,a4,a5,a6,a7,a8,a9⟩:=tk_st hk;split at h
  ·rename_i off sz xs hf
   injection h with h;injection h with e1 e2
   subst e1 e2;rw [a8,List.getElem?_map] at hf
   cases hf':fields.toList[f]? with
   | none=>rw [hf'] at hf;cases hf
   | some fd=>
    rw [hf'] at hf
    injection hf with hf;injection hf with f1 f2;injection f2 with f2 f3
    subst f1 f2;obtain ⟨hne,hsome,-⟩:=a9 fd (List.mem_of_getElem? hf');obtain ⟨dd,hd⟩:=Option.isSome_iff_exists.1 hsome;obtain ⟨us,rfl,h1,h2⟩:=hu;refine ⟨.agg ((us.drop fd.offset).take (szT P fd.type)).toArray,?_,_,rfl,by simp [h1],fun j y u hy hu=>?_⟩
    ·simp only [Instr.field,Sem.run_bind,run_underlying a1,Result.andThen_ok,Array.getElem?_toList ▸ hf',asAgg,Sem.run_pure,part,uO hd,f3,if_true,szT_run hne]
     congr 2
     apply Array.ext'
     simp [List.extract_eq_take_drop,Nat.add_sub_cancel_left]
    ·rw [List.getElem?_take] at hy hu
     split at hy
     ·rename_i hjn
      rw [if_pos hjn] at hu
      rw [List.getElem?_drop] at hy hu
      exact h2 _ _ _ hy hu
     ·cases hy
  ·rename_i off sz xs hf
   split at h
   ·rename_i c row' hd0
    injection h with h;injection h with e1 e2
    subst e1 e2;rw [a8,List.getElem?_map] at hf
    cases hf':fields.toList[f]? with
    | none=>rw [hf'] at hf;cases hf
    | some fd=>
     rw [hf'] at hf
     injection hf with hf;injection hf with f1 f2;injection f2 with f2 f3
     subst f1 f2;obtain ⟨hne,hsome,-⟩:=a9 fd (List.mem_of_getElem? hf');obtain ⟨dd,hd⟩:=Option.isSome_iff_exists.1 hsome;obtain ⟨us,rfl,h1,h2⟩:=hu;have hc:xs[fd.offset]?=some c:=by have:=congrArg (fun l=>l[0]?) hd0;simpa using this
     have hlt:fd.offset<us.length:=by rw [h1];exact (List.getElem?_eq_some_iff.1 hc).1
     refine ⟨us[fd.offset],?_,(h2 _ _ _ hc (List.getElem?_eq_getElem hlt)).re⟩;simp only [Instr.field,Sem.run_bind,run_underlying a1,Result.andThen_ok,Array.getElem?_toList ▸ hf',asAgg,Sem.run_pure,part,uO hd,f3,Bool.false_eq_true,if_false]
     simp [List.getElem?_eq_getElem hlt]
   ·cases h
  ·cases h
 ·cases h
theorem Rep.row{S:Nat->Prop}{up:Nat->Option Pos}{w:World}{p:Option Pos}{k:Nat}{rows:List (List D)}{a:Option Addr}{n c:Nat}(h:Rep S up w p (.sl k rows) (.slice a n c))(i:Nat)(hi:i<rows.length):∃ ad,a=some ad/\n=rows.length/\Rep S up w p (.pt (rows.getD i [])) (.pointer (some (ad.add (i*k)))):=by
 cases h with
 | sl0 _=>simp at hi
 | @sl _ _ _ b off c us h1 h2 h3 h4 h5=>
  refine ⟨_,rfl,rfl,?_⟩;have hg:rows[i]?=some rows[i]:=List.getElem?_eq_getElem hi;rw [ym hg,add_lit];exact .pt (us i) (fun j d hj=>h4 i j _ d hg hj) (fun j d hj=>h5 i j _ d hg hj)
def rowsE:D->Option (Nat×List (List D))
 | .sl k rows=>some (k,rows)
 | _=>none
theorem rowsE_ok{x:D}{k:Nat}{rows:List (List D)}(h:rowsE x=some (k,rows)){g:Gh}{w:World}{u:Value}(hu:RE g w x u):Rep g.S g.up w none (.sl k rows) u:=by
 unfold rowsE at h
 split at h
 ·injection h with h;injection h with e1 e2;subst e1 e2;exact hu
 ·cases h
theorem Rep.sl_shape{S:Nat->Prop}{up:Nat->Option Pos}{w:World}{p:Option Pos}{k:Nat}{rows:List (List D)}{u:Value}(h:Rep S up w p (.sl k rows) u):∃ a c,u=.slice a rows.length c/\rows.length<=c/\c<=maxLen:=by
 cases h with
 | sl0 h=>exact ⟨_,_,rfl,Nat.zero_le _,h⟩
 | sl us h1 h2 h3 h4 h5=>exact ⟨_,_,rfl,h1,h2⟩
def intE:D->Option (IntKind×Int)
 | (.s (.int k n))=>some (k,n)
 | _=>none
theorem Xs{x:D}{k:IntKind}{n:Int}(h:intE x=some (k,n)){g:Gh}{w:World}{u:Value}(hu:RE g w x u):u=.int k n:=by
 unfold intE at h
 split at h
 ·injection h with h;injection h with e1 e2;subst e1 e2;exact Rep.s_inv hu
 ·cases h
def v9(P:Program)(t:TypeId)(x i:D):Option (Prop×D):=match tk P t,intE i with
 | .sl _ k _ _,some (_,n)=>match x with
  | .bs id k' m=>some (k'=k/\0<=n/\n<(m:Int),.el id k' n.toNat 0)
  | x=>match rowsE x with
   | some (k',rows)=>some (k'=k/\0<=n/\n<(rows.length:Int),(.pt (rows.getD n.toNat [])))
   | none=>none
 | _,_=>none
theorem xau{P:Program}{t:TypeId}{x i y:D}{ob:Prop}(h:v9 P t x i=some (ob,y))(ho:ob){g:Gh}{w:World}{u v:Value}(hu:RE g w x u)(hv:RE g w i v) :
  ∃ r,(Instr.indexAt t u v).run P w=.ok r w/\RE g w y r:=by
 unfold v9 at h
 split at h
 ·rename_i e k b z ik n hk hi
  obtain ⟨hu1,-⟩:=zF hk;have hel:P.elem t=e:=by unfold Program.elem;rw [hu1]
  obtain rfl:=Xs hi hv;split at h
  ·rename_i id k' m
   injection h with h;injection h with e1 e2
   subst e1 e2;obtain ⟨rfl,h0,h1⟩:=ho;obtain ⟨rfl,c1,c2,c3⟩:=hu;cases hb:g.β id with
   | none=>have:=c3 hb;omega
   | some b=>
    refine ⟨.pointer (some ⟨b,n.toNat*k'+0,none⟩),?_,b,hb,rfl⟩;rw [Option.map_some,run_indexAt_slice w t _ m _ ik n (by rw [hel];exact hu1),if_pos ⟨h0,h1⟩,hel,zZ hk]
    simp [Addr.add_lit]
  ·split at h
   ·rename_i k' rows hx
    injection h with h;injection h with e1 e2
    subst e1 e2;obtain ⟨rfl,h0,h1⟩:=ho;have hr:=rowsE_ok hx hu;obtain ⟨a,c,rfl,c1,c2⟩:=hr.sl_shape;obtain ⟨ad,rfl,-,hp⟩:=hr.row n.toNat (by omega)
    refine ⟨_,?_,hp⟩;rw [run_indexAt_slice w t ad rows.length c ik n (by rw [hel];exact hu1),if_pos ⟨h0,h1⟩,hel,zZ hk]
    rfl
   ·cases h
 ·cases h
def U2(P:Program)(t:TypeId)(x i:D):Option (Prop×D):=match x,intE i with
 | (.s (.string s)),some (_,n)=>some (P.underlying t=some .string/\0<=n/\n<(s.size:Int),.s (.int .u8 ((s.data.toList.getD n.toNat 0).toNat:Int)))
 | _,_=>none
theorem aIndex_ok{P:Program}{t:TypeId}{x i:D}{d:D}{ob:Prop}(h:U2 P t x i=some (ob,d))(ho:ob){g:Gh}{w:World}{u v:Value}(hu:RE g w x u)(hv:RE g w i v) :
  ∃ r,(Instr.index t u v).run P w=.ok r w/\Rep g.S g.up w none d r:=by
 unfold U2 at h
 split at h
 ·rename_i s ik n hi
  injection h with h;injection h with e1 e2
  subst e1 e2;obtain ⟨h0,h1,h2⟩:=ho;obtain rfl:=Rep.s_inv hu;obtain rfl:=Xs hi hv;refine ⟨_,?_,.i _ _⟩;have hlt:n.toNat<s.size:=by omega
  have hg:s[n.toNat]?=some s[n.toNat]:=by rw [getElem?_pos]
  simp only [Instr.index,asIntOf,Sem.run_bind,Sem.run_pure,Result.andThen_ok,run_underlying h0,if_pos h1,hg];have he:s.data.toList.getD n.toNat 0=s[n.toNat]:=by
   have hl:n.toNat<s.data.toList.length:=by simpa using hlt
   rw [ym (List.getElem?_eq_getElem hl)];rfl
  rw [he]
 ·cases h
def uW:Option D->Int->Option Int
 | none,n=>some n
 | some x,_=>(intE x).map (·.2)
theorem uA{lo:Option D}{n l:Int}(h:uW lo n=some l){g:Gh}{w:World}{lv:Option Value}(hl:lv.isSome=lo.isSome)(hr:∀ x v,lo=some x->lv=some v->RE g w x v) :
  (lo=none/\lv=none/\l=n)\/∃ k,lv=some (.int k l):=by
 cases lo with
 | none=>
  left
  cases lv with
  | none=>injection h with h;exact ⟨rfl,rfl,h.symm⟩
  | some _=>cases hl
 | some x=>
  right
  cases lv with
  | none=>cases hl
  | some v=>
   simp only [uW,Option.map_eq_some_iff] at h
   obtain ⟨⟨k,m⟩,hm,rfl⟩:=h;exact ⟨k,by rw [Xs hm (hr x v rfl rfl)]⟩
theorem Zg{P:Program}{b:Bool}{len cap l h:Nat}{lv hv:Option Value}(hl:(lv=none/\l=0)\/∃ k,lv=some (.int k (l:Int)))(hh:(hv=none/\h=len)\/∃ k,hv=some (.int k (h:Int)))(h1:l<=h)(h2:h<=cap)(w:World) :
  (Instr.sliceBounds b len cap lv hv none).run P w=.ok (l,h,cap) w:=by
 have e1:(0:Int)<=(h:Int)/\(h:Int)<=(cap:Int):=by omega
 have e2:(0:Int)<=(l:Int)/\(l:Int)<=(h:Int):=by omega
 rcases hl with ⟨rfl,rfl⟩|⟨k,rfl⟩<;>rcases hh with ⟨rfl,rfl⟩|⟨k',rfl⟩ <;>
  simp [Instr.sliceBounds,Instr.sliceBound,asIntOf,e1,e2,h1,h2]
def U3(P:Program)(t:TypeId)(x:D)(lo hi:Option D):Option (Prop×D):=match x with
 | .sl k' rows=>match tk P t,uW lo 0,uW hi rows.length with
  | .sl _ k _ _,some l,some h=>some (k'=k/\0<=l/\l<=h/\h<=(rows.length:Int),.sl k' ((rows.take h.toNat).drop l.toNat))
  | _,_,_=>none
 | .bs id k' n=>match tk P t,uW lo 0,uW hi n with
  | .sl _ k _ _,some l,some h=>some (k'=k/\l=0/\0<=h/\h<=(n:Int),.bs id k' h.toNat)
  | _,_,_=>none
 | .s (.string s)=>match uW lo 0,uW hi s.size with
  | some l,some h=>some (P.underlying t=some .string/\0<=l/\l<=h/\h<=(s.size:Int),.s (.string (s.extract l.toNat h.toNat)))
  | _,_=>none
 | _=>none
theorem Rep.part{S:Nat->Prop}{up:Nat->Option Pos}{w:World}{p:Option Pos}{k:Nat}{rows:List (List D)}{a:Option Addr}{n c:Nat}(hr:Rep S up w p (.sl k rows) (.slice a n c))(l h:Nat)(h1:l<=h)(h2:h<=rows.length) :
  Rep S up w p (.sl k ((rows.take h).drop l)) (.slice (if c=l then a else a.map (·.add (l*k))) (h - l) (c - l)):=by
 have hlen:((rows.take h).drop l).length=h - l:=by rw [List.length_drop,List.length_take,Nat.min_eq_left h2]
 cases hr with
 | sl0 hc=>
  have e0:h=0/\l=0:=by simp at h2;omega
  obtain ⟨rfl,rfl⟩:=e0;exact .sl0 (by omega)
 | @sl _ _ _ b off c us c1 c2 c3 c4 c5=>
  by_cases e:h=l
  ·subst e
   have:(rows.take h).drop h=[]:=List.eq_nil_of_length_eq_zero (by rw [hlen];omega)
   rw [this,Nat.sub_self];exact .sl0 (by omega)
  ·have hne:¬ c=l:=by omega
   rw [if_neg hne,Option.map_some,add_lit,<- hlen];have hg:∀ (i:Nat) (row:List D),((rows.take h).drop l)[i]?=some row->rows[l+i]?=some row:=by
    intro i row hi;rw [List.getElem?_drop,List.getElem?_take] at hi
    split at hi
    ·exact hi
    ·cases hi
   refine .sl (fun i j=>us (l+i) j) (by rw [hlen];omega) (by omega) (fun i row hi=>c3 _ row (hg i row hi)) (fun i j row d hi hj=>?_) (fun i j row d hi hj=>c5 _ j row d (hg i row hi) hj)
   have:=c4 (l+i) j row d (hg i row hi) hj;rw [Nat.add_mul,<- Nat.add_assoc] at this
   exact this
theorem aSlice_ok{P:Program}{t:TypeId}{x y:D}{lo hi:Option D}{ob:Prop}(h:U3 P t x lo hi=some (ob,y))(ho:ob){g:Gh}{w:World}{u:Value}(hu:RE g w x u){lv hv:Option Value}
  (hl1:lv.isSome=lo.isSome) (hl2:∀ x v,lo=some x->lv=some v->RE g w x v) (hh1:hv.isSome=hi.isSome) (hh2:∀ x v,hi=some x->hv=some v->RE g w x v) :
  ∃ r,(Instr.sliceAt t u lv hv none).run P w=.ok r w/\RE g w y r:=by
 unfold U3 at h
 split at h
 ·rename_i k' rows
  split at h
  ·rename_i e k b z l hh hk bl bh
   injection h with h;injection h with e1 e2
   subst e1 e2;obtain ⟨rfl,o1,o2,o3⟩:=ho;have hr:Rep g.S g.up w none (.sl k' rows) u:=hu;obtain ⟨a,c,rfl,c1,c2⟩:=hr.sl_shape;obtain ⟨hu1,-⟩:=zF hk;obtain ⟨l,rfl⟩:=Int.eq_ofNat_of_zero_le o1;obtain ⟨hh,rfl⟩:=Int.eq_ofNat_of_zero_le (Int.le_trans o1 o2);have b1:=uA bl hl1 hl2;have b2:=uA bh hh1 hh2;simp only [Int.toNat_natCast] at *
   refine ⟨_,?_,Rep.part hr l hh (by omega) (by omega)⟩
   have hb:=Zg (P:=P) (b:=true) (len:=rows.length) (cap:=c) (l:=l) (h:=hh) (lv:=lv) (hv:=hv) (b1.imp (fun q=>⟨q.2.1,by omega⟩) id) (b2.imp (fun q=>⟨q.2.1,by omega⟩) id) (by omega) (by omega) w
   simp only [Instr.sliceAt,Sem.run_bind,run_underlying hu1,Result.andThen_ok,Instr.slice,hb,zZ hk,Sem.run_pure]
  ·cases h
 ·rename_i nm k' n
  split at h
  ·rename_i e k b z l hh hk bl bh
   injection h with h;injection h with e1 e2
   subst e1 e2;obtain ⟨rfl,rfl,o2,o3⟩:=ho;obtain ⟨rfl,c1,c2,c3⟩:=hu;obtain ⟨hu1,-⟩:=zF hk;obtain ⟨hh,rfl⟩:=Int.eq_ofNat_of_zero_le o2;have b1:=uA bl hl1 hl2;have b2:=uA bh hh1 hh2;simp only [Int.toNat_natCast] at *
   refine ⟨.slice ((g.β nm).map fun b=>⟨b,0,none⟩) hh (g.κ nm),?_,rfl,by omega,c2,c3⟩
   have hb:=Zg (P:=P) (b:=true) (len:=n) (cap:=g.κ nm) (l:=0) (h:=hh) (lv:=lv) (hv:=hv) (b1.imp (fun q=>⟨q.2.1,by omega⟩) id) (b2.imp (fun q=>⟨q.2.1,by omega⟩) id) (by omega) (by omega) w
   simp only [Instr.sliceAt,Sem.run_bind,run_underlying hu1,Result.andThen_ok,Instr.slice,hb,zZ hk,Sem.run_pure];cases g.β nm<;>simp [Addr.add_lit]
  ·cases h
 ·rename_i s
  split at h
  ·rename_i l hh bl bh
   injection h with h;injection h with e1 e2
   subst e1 e2;obtain ⟨ht,o1,o2,o3⟩:=ho;obtain rfl:=Rep.s_inv hu;obtain ⟨l,rfl⟩:=Int.eq_ofNat_of_zero_le o1;obtain ⟨hh,rfl⟩:=Int.eq_ofNat_of_zero_le (Int.le_trans o1 o2);have b1:=uA bl hl1 hl2;have b2:=uA bh hh1 hh2;simp only [Int.toNat_natCast] at *
   refine ⟨_,?_,.str _⟩;have hb:=Zg (P:=P) (b:=false) (len:=s.size) (cap:=s.size) (l:=l) (h:=hh) (lv:=lv) (hv:=hv) (b1.imp (fun q=>⟨q.2.1,by omega⟩) id) (b2.imp (fun q=>⟨q.2.1,by omega⟩) id) (by omega) (by omega) w
   simp only [Instr.sliceAt,Sem.run_bind,run_underlying ht,Result.andThen_ok,Instr.slice,Option.isSome_none,Bool.false_eq_true,if_false,Sem.run_pure,hb]
  ·cases h
 ·cases h
def aLen(P:Program)(t:TypeId)(x:D):Option (Prop×D):=match x with
 | (.s (.string s))=>some (P.underlying t=some .string,.s (.int .i64 s.size))
 | .nil=>some (P.underlying t=some (.slice (P.elem t)),.s (.int .i64 0))
 | (.sl _ rows)=>some (P.underlying t=some (.slice (P.elem t)),.s (.int .i64 rows.length))
 | .bs _ _ n=>some (P.underlying t=some (.slice (P.elem t)),.s (.int .i64 n))
 | _=>none
theorem aLen_ok{P:Program}{t ty:TypeId}{x:D}{d:D}{ob:Prop}(h:aLen P t x=some (ob,d))(ho:ob){g:Gh}{w:World}{u:Value}(hu:RE g w x u) :
  ∃ r,(Builtin.len_ #[t] ty #[u]).run P w=.ok r w/\Rep g.S g.up w none d r:=by
 unfold aLen at h
 split at h
 ·injection h with h;injection h with e1 e2
  subst e1 e2;obtain rfl:=Rep.s_inv hu;exact ⟨_,by simp [Builtin.len_,run_underlying ho];rfl,.i _ _⟩
 ·injection h with h;injection h with e1 e2
  subst e1 e2;cases hu;exact ⟨_,run_len_slice w t ty _ _ _ ho,.i _ _⟩
 ·injection h with h;injection h with e1 e2
  subst e1 e2;obtain ⟨a,c,rfl,-⟩:=Rep.sl_shape hu;exact ⟨_,run_len_slice w t ty _ _ _ ho,.i _ _⟩
 ·injection h with h;injection h with e1 e2
  subst e1 e2;obtain ⟨rfl,-⟩:=hu;exact ⟨_,run_len_slice w t ty _ _ _ ho,.i _ _⟩
 ·cases h
def aConv(P:Program)(src dst:TypeId)(x:D):Option (Prop×D):=match intE x with
 | some (_,n)=>some ((P.underlying src).isSome=true/\P.underlying dst=some (.int (P.intKind dst))/\kmin (P.intKind dst)<=n/\n<=kmax (P.intKind dst),.s (.int (P.intKind dst) n))
 | none=>none
theorem aConv_ok{P:Program}{src dst:TypeId}{x:D}{d:D}{ob:Prop}(h:aConv P src dst x=some (ob,d))(ho:ob){g:Gh}{w:World}{u:Value}(hu:RE g w x u) :
  ∃ r,(convert src dst u).run P w=.ok r w/\Rep g.S g.up w none d r:=by
 unfold aConv at h
 split at h
 ·rename_i k n hx
  injection h with h;injection h with e1 e2
  subst e1 e2;obtain rfl:=Xs hx hu;refine ⟨_,?_,.i _ _⟩;rw [run_convert_int w src dst k n ho.1 ho.2.1,vD _ _ ho.2.2.1 ho.2.2.2]
 ·cases h
def aNil(x:D):Option (Prop×D):=match x with
 | .pt row=>some (True,.pt row)
 | .bx id o=>some (True,.bx id o)
 | .el id k i o=>some (True,.el id k i o)
 | .fn f cs=>some (True,.fn f cs)
 | _=>none
def lift2(o1 o2:Prop):Option (Prop×D)->Option (Prop×D)
 | some (ob,d)=>some (o1/\o2/\ob,d)
 | none=>none
def aPick(c a b:D):Option (Prop×D):=match xz c,xz a,xz b with
 | (.s (.bool vc)),(.s (.bool va)),(.s (.bool vb))=>some (oblT c/\(vc=true->oblT a)/\(vc=false->oblT b),.s (.bool (bif vc then va else vb)))
 | (.s (.bool vc)),(.s (.bool va)),.un=>some (oblT c/\vc=true/\oblT a,.s (.bool va))
 | (.s (.bool vc)),.un,(.s (.bool vb))=>some (oblT c/\vc=false/\oblT b,.s (.bool vb))
 | _,_,_=>none
def Ua(x:D)(i:Nat):Option (Prop×D):=match x with
 | .tup xs=>match xs[i]? with
  | some y=>some (True,y)
  | none=>none
 | _=>none
def oblO:Option D->Prop
 | some x=>oblT x
 | none=>True
def aop1(P:Program)(σ:St):Op->Option (Prop×D)
 | .move x=>some (True,ev σ x)
 | .assign x=>some (True,ev σ x)
 | .pick c a b=>aPick (ev σ c) (ev σ a) (ev σ b)
 | .binOp op t x y _=>lift2 (oblT (ev σ x)) (oblT (ev σ y)) (aBin P op t (xz (ev σ x)) (xz (ev σ y)))
 | .unOp op _ x=>lift2 (oblT (ev σ x)) True (aUn op (xz (ev σ x)))
 | .load t x=>lift2 (oblT (ev σ x)) True (Xa P σ t (xz (ev σ x)))
 | .fieldAddr s x f=>lift2 (oblT (ev σ x)) True (v8 P s (xz (ev σ x)) f)
 | .field s x f=>lift2 (oblT (ev σ x)) True (U1 P s (xz (ev σ x)) f)
 | .indexAddr t x i=>lift2 (oblT (ev σ x)) (oblT (ev σ i)) (v9 P t (xz (ev σ x)) (xz (ev σ i)))
 | .index t x i=>lift2 (oblT (ev σ x)) (oblT (ev σ i)) (U2 P t (xz (ev σ x)) (xz (ev σ i)))
 | .slice t x lo hi none=>lift2 (oblT (ev σ x)) (oblO (lo.map (ev σ))/\oblO (hi.map (ev σ))) (U3 P t (xz (ev σ x)) (lo.map fun y=>xz (ev σ y)) (hi.map fun y=>xz (ev σ y)))
 | .extract x i=>Ua (ev σ x) i
 | .nilCheck x=>lift2 (oblT (ev σ x)) True (aNil (xz (ev σ x)))
 | .convert s d x=>lift2 (oblT (ev σ x)) True (aConv P s d (xz (ev σ x)))
 | .call ⟨.builtin .len,args,ts⟩=>match args.toList,ts.toList with
  | [x],[t]=>lift2 (oblT (ev σ x)) True (aLen P t (xz (ev σ x)))
  | _,_=>none
 | _=>none
theorem yD{o1 o2 ob:Prop}{r:Option (Prop×D)}{y:D}(h:lift2 o1 o2 r=some (ob,y)):∃ ob',r=some (ob',y)/\ob=(o1/\o2/\ob'):=by
 unfold lift2 at h
 split at h
 ·injection h with h;injection h with e1 e2
  subst e2;exact ⟨_,rfl,e1.symm⟩
 ·cases h
theorem aop1_ok{x:Cx}{σ:St}{o:Oper}{ob:Prop}{y:D}(h:aop1 x.P σ o.op=some (ob,y))(ho:ob){g:Gh}{a:Act}{w:World}(hr:Rel x g σ a w) :
  ∃ r,(execOp a.eval o).run x.P w=.ok (.value r) w/\RT g w y r:=by
 have hev:=Xj hr;have hb:∀ z,oblT (ev σ z)->RE g w (xz (ev σ z)) (a.eval z):=fun z hz=>zP (hev z) hz
 unfold aop1 at h
 split at h
 ·rename_i z hop
  injection h with h;injection h with e1 e2
  subst e2;exact ⟨_,by simp only [execOp,hop,Sem.run_pure],hev z⟩
 ·rename_i z hop
  injection h with h;injection h with e1 e2
  subst e2;exact ⟨_,by simp only [execOp,hop,Sem.run_pure],hev z⟩
 ·rename_i c p q hop
  unfold aPick at h
  split at h
  ·rename_i vc va vb hc ha hb'
   injection h with h;injection h with e1 e2
   subst e1 e2;obtain ⟨o1,o2,o3⟩:=ho;have c1:=hb c o1;rw [hc] at c1
   have c1:a.eval c=.bool vc:=Rep.s_inv c1;cases vc with
   | true=>
    have c2:=hb p (o2 rfl);rw [ha] at c2
    have c2:a.eval p=.bool va:=Rep.s_inv c2;exact ⟨.bool va,by simp [execOp,hop,c1,asBool,c2],Rep.rt (.b _)⟩
   | false=>
    have c2:=hb q (o3 rfl);rw [hb'] at c2
    have c2:a.eval q=.bool vb:=Rep.s_inv c2;exact ⟨.bool vb,by simp [execOp,hop,c1,asBool,c2],Rep.rt (.b _)⟩
  ·rename_i vc va hc ha hb'
   injection h with h;injection h with e1 e2
   subst e1 e2;obtain ⟨o1,rfl,o2⟩:=ho;have c1:=hb c o1;rw [hc] at c1
   have c1:a.eval c=.bool true:=Rep.s_inv c1;have c2:=hb p o2;rw [ha] at c2
   have c2:a.eval p=.bool va:=Rep.s_inv c2;exact ⟨.bool va,by simp [execOp,hop,c1,asBool,c2],Rep.rt (.b _)⟩
  ·rename_i vc vb hc ha hb'
   injection h with h;injection h with e1 e2
   subst e1 e2;obtain ⟨o1,rfl,o2⟩:=ho;have c1:=hb c o1;rw [hc] at c1
   have c1:a.eval c=.bool false:=Rep.s_inv c1;have c2:=hb q o2;rw [hb'] at c2
   have c2:a.eval q=.bool vb:=Rep.s_inv c2;exact ⟨.bool vb,by simp [execOp,hop,c1,asBool,c2],Rep.rt (.b _)⟩
  ·cases h
 ·rename_i op t p q yt hop
  obtain ⟨ob',h',rfl⟩:=yD h;replace h:=h';obtain ⟨r,r1,r2⟩:=aBin_ok h ho.2.2 (hb p ho.1) (hb q ho.2.1) p q;refine ⟨r,?_,r2.rt⟩;simp only [execOp,hop,Sem.run_bind] at r1 ⊢
  rw [r1];rfl
 ·rename_i op t p hop
  obtain ⟨ob',h',rfl⟩:=yD h;replace h:=h';obtain ⟨r,r1,r2⟩:=aUn_ok (P:=x.P) h ho.2.2 (hb p ho.1);exact ⟨r,by simp only [execOp,hop,Sem.run_bind,r1];rfl,r2.rt⟩
 ·rename_i t p hop
  obtain ⟨ob',h',rfl⟩:=yD h;replace h:=h';obtain ⟨r,r1,r2⟩:=xaJ h ho.2.2 hr (hb p ho.1);exact ⟨r,by simp only [execOp,hop,Sem.run_bind,r1];rfl,r2.rt⟩
 ·rename_i t p f hop
  obtain ⟨ob',h',rfl⟩:=yD h;replace h:=h';obtain ⟨r,r1,r2⟩:=xat h (hb p ho.1);exact ⟨r,by simp only [execOp,hop,Sem.run_bind,r1];rfl,r2.rt⟩
 ·rename_i t p f hop
  obtain ⟨ob',h',rfl⟩:=yD h;replace h:=h';obtain ⟨r,r1,r2⟩:=aField_ok h ho.2.2 (hb p ho.1);exact ⟨r,by simp only [execOp,hop,Sem.run_bind,r1];rfl,r2.rt⟩
 ·rename_i t p i hop
  obtain ⟨ob',h',rfl⟩:=yD h;replace h:=h';obtain ⟨r,r1,r2⟩:=xau h ho.2.2 (hb p ho.1) (hb i ho.2.1);exact ⟨r,by simp only [execOp,hop,Sem.run_bind,r1];rfl,r2.rt⟩
 ·rename_i t p i hop
  obtain ⟨ob',h',rfl⟩:=yD h;replace h:=h';obtain ⟨r,r1,r2⟩:=aIndex_ok h ho.2.2 (hb p ho.1) (hb i ho.2.1);exact ⟨r,by simp only [execOp,hop,Sem.run_bind,r1];rfl,r2.rt⟩
 ·rename_i t p lo hi hop
  obtain ⟨ob',h',rfl⟩:=yD h;replace h:=h';obtain ⟨r,r1,r2⟩:=aSlice_ok (lv:=lo.map a.eval) (hv:=hi.map a.eval) h ho.2.2 (hb p ho.1) (by cases lo<;>rfl) (fun z v hz hv=>by
   cases lo with
   | none=>cases hz
   | some l=>injection hz with hz;injection hv with hv;subst hz hv;exact hb l ho.2.1.1) (by cases hi<;>rfl) (fun z v hz hv=>by
   cases hi with
   | none=>cases hz
   | some l=>injection hz with hz;injection hv with hv;subst hz hv;exact hb l ho.2.1.2)
  exact ⟨r,by simp only [execOp,hop,Sem.run_bind,Option.map_none,r1];rfl,r2.rt⟩
 ·rename_i p i hop
  unfold Ua at h
  split at h
  ·rename_i xs hx
   split at h
   ·rename_i z hz
    injection h with h;injection h with e1 e2
    subst e1 e2;have h1:=hev p;rw [hx] at h1
    obtain ⟨us,hu,hl,h2⟩:=h1;have hlt:i<us.length:=by rw [hl];exact (List.getElem?_eq_some_iff.1 hz).1
    refine ⟨us[i],?_,(h2 i z _ hz (List.getElem?_eq_getElem hlt)).rt⟩
    simp [execOp,hop,hu,Instr.extract,List.getElem?_eq_getElem hlt]
   ·cases h
  ·cases h
 ·rename_i p hop
  obtain ⟨ob',h',rfl⟩:=yD h;replace h:=h';have h1:=hb p ho.1;unfold aNil at h
  split at h
  ·rename_i row hx
   injection h with h;injection h with e1 e2
   subst e1 e2;rw [hx] at h1
   refine ⟨a.eval p,?_,h1.rt⟩;cases hv:a.eval p<;>rw [hv] at h1<;>cases h1
   simp [execOp,hop,hv]
  ·rename_i id o hx
   injection h with h;injection h with e1 e2
   subst e1 e2;rw [hx] at h1
   refine ⟨a.eval p,?_,h1.rt⟩;obtain ⟨b,-,h1⟩:=h1
   simp [execOp,hop,h1]
  ·rename_i id k i o hx
   injection h with h;injection h with e1 e2
   subst e1 e2;rw [hx] at h1
   refine ⟨a.eval p,?_,h1.rt⟩;obtain ⟨b,-,h1⟩:=h1
   simp [execOp,hop,h1]
  ·rename_i f cs hx
   injection h with h;injection h with e1 e2
   subst e1 e2;rw [hx] at h1
   refine ⟨a.eval p,?_,h1.rt⟩;cases hv:a.eval p<;>rw [hv] at h1<;>cases h1
   simp [execOp,hop,hv]
  ·cases h
 ·rename_i s d p hop
  obtain ⟨ob',h',rfl⟩:=yD h;replace h:=h';obtain ⟨r,r1,r2⟩:=aConv_ok h ho.2.2 (hb p ho.1);exact ⟨r,by simp only [execOp,hop,Sem.run_bind,r1];rfl,r2.rt⟩
 ·rename_i args ts hop
  split at h
  ·rename_i p t ha ht
   obtain ⟨ob',h',rfl⟩:=yD h;replace h:=h';obtain ⟨r,r1,r2⟩:=aLen_ok (ty:=o.type) h ho.2.2 (hb p ho.1);refine ⟨r,?_,r2.rt⟩;have ea:args=#[p]:=Array.ext' ha;have et:ts=#[t]:=Array.ext' ht;subst ea et;simp only [execOp,hop,resolve,invoke,builtin,Sem.run_bind,Sem.run_pure,Result.andThen_ok,List.map_toArray,List.map_cons,List.map_nil];rw [r1];rfl
  ·cases h
 ·cases h
theorem Rep.any{S:Nat->Prop}{up:Nat->Option Pos}{w:World}{d:D}{v:Value}(h:Rep S up w none d v)(p:Option Pos):Rep S up w p d v:=by
 cases h with
 | s h=>exact .s h
 | nil=>exact .nil
 | np=>exact .np
 | sl0 h=>exact .sl0 h
 | sl us a b c d e=>exact .sl us a b c d e
 | pt us a b=>exact .pt us a b
 | fn us a=>exact .fn us a
 | osl0=>exact .osl0
theorem RC.any{g:Gh}{w:World}{d:D}{v:Value}(h:RC g w none d v)(p:Option Pos):RC g w p d v:=by
 cases d with
 | bx id off=>exact h
 | el id k i off=>exact h
 | bs id k n=>exact h
 | un=>exact h
 | ag _=>exact h
 | tup _=>exact h
 | mb _ _=>exact h
 | _=>exact (Rep.any h p).rc
theorem Ud(w:World)(o:Obj):(w.alloc o).heap[w.heap.size]?=some o:=by show (w.heap.push o)[w.heap.size]?=_;simp
theorem zq(w:World)(o:Obj):(w.alloc o).heap.size=w.heap.size+1:=by simp
def pOut:List Nat->Nat->Bool
 | [],_=>true
 | a::l,i=>(i != a)&&pOut l i
theorem xy{l:List Nat}{i:Nat}(h:pOut l i=true):∀ a∈l,i≠a:=by
 induction l with
 | nil=>intro a ha;cases ha
 | cons b l ih=>
  simp only [pOut,Bool.and_eq_true,bne_iff_ne,ne_eq] at h
  intro a ha;rcases List.mem_cons.1 ha with rfl|ha
  ·exact h.1
  ·exact ih h.2 a ha
def St.setB(σ:St)(d:Nat)(o:Ob):St:=⟨σ.t,fun i=>if i=d then some o else σ.b i⟩
theorem Rel.setB{x:Cx}{g:Gh}{σ:St}{a:Act}{w:World}(h:Rel x g σ a w){id:Nat}{o:Ob}(ho:RO g w id o)(hp:isP id=true->g.β id=x.β0 id/\g.κ id=x.κ0 id):Rel x g (σ.setB id o) a w:=
 ⟨h.bel,h.fr,h.dfr,h.sz,h.tm,h.s0,h.old,h.new,h.own,fun i o' hi=>by
  simp only [St.setB] at hi
  split at hi
  ·rename_i e;subst e;injection hi with hi;subst hi;exact ho
  ·exact h.ob i o' hi,fun i o' hi hq=>by
  simp only [St.setB] at hi
  split at hi
  ·rename_i e;subst e;exact hp hq
  ·exact h.par i o' hi hq⟩
def lay{α:Type}(row:List α)(off:Nat)(xs:List α):List α:=row.take off++xs++row.drop (off+xs.length)
theorem lay_len{α:Type}{row:List α}{off:Nat}{xs:List α}(h:off+xs.length<=row.length):(lay row off xs).length=row.length:=by
 unfold lay;simp only [List.length_append,List.length_take,List.length_drop];omega
theorem zx{α:Type}{row:List α}{off:Nat}{xs:List α}(h:off+xs.length<=row.length)(j:Nat):(lay row off xs)[j]?=if off<=j/\j<off+xs.length then xs[j - off]? else row[j]?:=by
 unfold lay;have t1:(row.take off).length=off:=by rw [List.length_take];omega
 rcases Nat.lt_or_ge j off with q|q
 ·rw [List.append_assoc,List.getElem?_append_left (by omega),List.getElem?_take_of_lt q,if_neg (by omega)]
 ·rw [List.append_assoc,List.getElem?_append_right (by omega),t1]
  rcases Nat.lt_or_ge (j - off) xs.length with r|r
  ·rw [List.getElem?_append_left r,if_pos (by omega)]
  ·rw [List.getElem?_append_right r,List.getElem?_drop,if_neg (by omega)]
   congr 1;omega
theorem Yq{cs:Array Value}{j:Nat}{u:Value}(h:cs.toList[j]?=some u):cs.getD j undef=u:=by
 rw [Array.getElem?_toList] at h
 rw [Array.getD_eq_getD_getElem?,h];rfl
theorem Rel.newBox{x:Cx}{g:Gh}{σ:St}{a:Act}{w:World}(h:Rel x g σ a w)(d:Nat)(row:List D)(us:List Value)(ty:TypeId)(h1:RCs g w row us)(hn:∀ y∈row,scC (pOut [d]) y=y)(hdP:isP d=false) :
  ∃ g',Rel x g' ((σ.sc (pOut [d]) (pOut [d])).setB d (.box row)) a (w.alloc (.cells us.toArray ty))/\g'.β d=some w.heap.size:=by
 generalize hbn:w.heap.size=bn;have hold:∀ b,b<bn->(w.alloc (.cells us.toArray ty)).heap[b]?=w.heap[b]?:=fun b hb=>Below.heap_alloc _ _ _ (by omega)
 have ev:Ev (fun _=>True) id (pOut [d]) (pOut [d]) g ⟨fun i=>if i=d then some bn else g.β i,g.κ,fun b=>if b=bn then some (.root d) else g.up b,g.S⟩ w (w.alloc (.cells us.toArray ty)):=by
  refine ⟨⟨fun b hb=>⟨hb,hold b (by have:=h.new b hb;omega)⟩,fun b p hb _=>?_,fun b p o _ _=>⟨trivial,rfl⟩⟩,fun i hi=>?_,fun i hi=>⟨hi,trivial,rfl⟩⟩
  ·have hlt:=(h.own b p hb).1
   refine ⟨?_,hold b (by omega)⟩
   show (if b=bn then _ else _)=_
   rw [if_neg (by omega)];exact hb
  ·have:=xy hi d (by simp)
   exact ⟨by show (if i=d then _ else _)=_;rw [if_neg this],rfl⟩
 have hrow:=h1.ev ev;have hR:=h.ev ev ((Below.refl _ _).alloc (Nat.zero_le _) _) (fun b hb hg=>hold b (by have:=h.bel.size;omega)) (fun b _ hs=>.inl hs) (fun b hs=>by rw [zq];have:=h.new b hs;omega) (fun b p hb=>by
  rw [zq];simp only at hb
  split at hb
  ·rename_i e
   subst e;exact ⟨by omega,fun q=>by have:=h.bel.size;omega,fun q=>by have:=h.new _ q;omega⟩
  ·obtain ⟨o1,o2,o3⟩:=h.own b p hb
   exact ⟨by omega,o2,o3⟩)
 refine ⟨_,hR.setB ⟨bn,us.toArray,ty,by simp,by simp,by rw [<- hbn];exact Ud _ _,by simp [h1.1],fun j y hy=>?_⟩ (fun q=>by rw [hdP] at q;cases q),by simp⟩
 have hj:j<us.length:=by rw [h1.1];exact (List.getElem?_eq_some_iff.1 hy).1
 have hu:us[j]?=some us[j]:=List.getElem?_eq_getElem hj;rw [Yq (u:=us[j]) (by simp)]
 have:=hrow.2 j (scC (pOut [d]) y) us[j] (by rw [List.getElem?_map,hy];rfl) hu
 rw [hn y (List.mem_of_getElem? hy)] at this
 exact this.any _
theorem Rel.store{x:Cx}{g:Gh}{σ:St}{a:Act}{w:World}(h:Rel x g σ a w)(id off:Nat)(row xs:List D)(hb:σ.b id=some (.box row))(us:List Value)(h1:RCs g w xs us)(hl:off+xs.length<=row.length){b:Nat}(hβ:g.β id=some b) :
  ∃ w',(storeCells ⟨b,off,none⟩ us).run x.P w=.ok () w'/\Rel x g (σ.setB id (.box (lay row off xs))) a w':=by
 obtain ⟨b',cs,ty,b1,b2,b3,b4,b5⟩:=h.ob id _ hb;rw [hβ] at b1;injection b1 with b1;subst b1
 have hul:=h1.1;have hone:∀ u∈us,u.oneCell'=true:=fun u hu=>by
  obtain ⟨j,hj,rfl⟩:=List.getElem_of_mem hu;exact (h1.2 j (xs[j]'(by rw [<- hul];exact hj)) us[j] (by rw [List.getElem?_eq_getElem]) (by rw [List.getElem?_eq_getElem])).one
 have hr:=run_storeCells_at x.P b off ty us 0 cs w b3 (by simp;omega) hone
 refine ⟨_,hr,?_⟩;simp only [Nat.add_zero];generalize hcs:(cs.toList.take off++us++cs.toList.drop (off+us.length)).toArray=cs';have hcsl:cs'.toList=lay cs.toList off us:=by subst hcs;rfl
 have hcl:cs.toList.length=row.length:=by rw [Array.length_toList,b4]
 have ev:Ev (fun p=>p≠.root id) (fun p=>p) pAll (pOut [id]) g g w (w.setRow b cs'):=by
  refine ⟨⟨fun c hc=>⟨hc,setRow_other _ _ _ _ (fun e=>(h.own b _ b2).2.2 (e ▸ hc))⟩,fun c p hc hp=>⟨hc,setRow_other _ _ _ _ (fun e=>?_)⟩,fun c p o _ _=>⟨by simp,rfl⟩⟩,fun i _=>⟨rfl,rfl⟩,fun i hi=>⟨rfl,?_,rfl⟩⟩
  ·subst e;rw [b2] at hc;injection hc with hc;exact hp hc.symm
  ·have:=xy hi id (by simp)
   intro e;injection e with e;exact this e
 have hR:=h.ev ev ⟨rfl,rfl,rfl,by simp,fun c hc=>by omega⟩ (fun c hc hg=>setRow_other _ _ _ _ (fun e=>hg (e ▸ (h.own b _ b2).2.1 (e ▸ hc)))) (fun c _ hs=>.inl hs) (fun c hs=>by simpa using h.new c hs) (fun c p hc=>by simpa using h.own c p hc)
 have hrow:=h1.ev ev;rw [vO] at hrow
 have hset:=hR.setB (id:=id) (o:=.box (lay row off xs)) ⟨b,cs',ty,hβ,b2,setRow_heap _ _ _ _ _ _ b3,by
  rw [lay_len hl,<- Array.length_toList,hcsl,lay_len (by omega),hcl],fun j y hy=>?_⟩ (h.par id _ hb)
 ·refine ⟨hset.bel,hset.fr,hset.dfr,hset.sz,fun i=>?_,hset.s0,hset.old,hset.new,hset.own,fun i o hi=>?_,fun i o hi hq=>?_⟩
  ·have:=hset.tm i
   simp only [St.setB,St.sc,Qe] at this
   exact this
  ·simp only [St.setB] at hi
   split at hi
   ·rename_i e;subst e
    exact hset.ob i o (by simp only [St.setB,if_true];exact hi)
   ·rename_i e
    refine hset.ob i o ?_;simp only [St.setB,if_neg e,St.sc];rw [if_pos (by simp [pOut,e]),hi,Option.map_some,Qd]
  ·simp only [St.setB] at hi
   split at hi
   ·rename_i e;subst e;exact h.par i _ hb hq
   ·exact h.par i o hi hq
 ·rw [zx hl] at hy
  have hg:cs'.getD j undef=(lay cs.toList off us).getD j undef:=by
   rw [List.getD_eq_getElem?_getD,Array.getD_eq_getD_getElem?,<- hcsl,Array.getElem?_toList]
  split at hy
  ·rename_i hj
   have hlt:j - off<us.length:=by omega
   have hu:us[j - off]?=some us[j - off]:=List.getElem?_eq_getElem hlt;have:=hrow.2 _ y _ hy hu;rw [hg,List.getD_eq_getElem?_getD,zx (by omega),if_pos (by omega),hu]
   exact this.any _
  ·rename_i hj
   have:=(b5 j y hy).ev ev (fun z hz=>by injection hz with hz;subst hz;simp)
   rw [YC] at this
   rw [hg,List.getD_eq_getElem?_getD,zx (by omega),if_neg (by omega),Array.getElem?_toList,<- Array.getD_eq_getD_getElem?]
   exact this
theorem Rep.osl_take{S:Nat->Prop}{up:Nat->Option Pos}{w:World}{p:Option Pos}{e k c:Nat}{rows:List (List D)}{a:Option Addr}(h:Rep S up w p (.osl e k rows) (.slice a rows.length c))(n:Nat)(hn:n<=rows.length):Rep S up w p (.osl e k (rows.take n)) (.slice a n c):=by
 have hl:(rows.take n).length=n:=by rw [List.length_take];omega
 cases h with
 | osl0=>
  have:n=0:=by simpa using hn
  subst this;exact .osl0
 | osl cs h1 h2 h3 h4 h5 h6 h7=>
  have key:=Rep.osl (S:=S) (rows:=rows.take n) (c:=c) cs h1 h2 (by omega) h4 h5 (fun i row hi=>?_) (fun i j row d hi hj=>?_)
  ·rw [hl] at key;exact key
  ·rw [List.getElem?_take] at hi
   split at hi
   ·exact h6 i row hi
   ·cases hi
  ·rw [List.getElem?_take] at hi
   split at hi
   ·exact h7 i j row d hi hj
   ·cases hi
def wt:D->Bool
 | .bx _ _=>false
 | .el _ _ _ _=>false
 | .bs _ _ _=>false
 | .ag _=>false
 | .un=>false
 | .tup _=>false
 | .mb _ _=>false
 | _=>true
def fdC(σ:St):D->Option (Prop×D)
 | .bs id k n=>match σ.b id with
  | some (.arr e k' rows)=>some (k'=k/\n<=rows.length,.osl e k (rows.take n))
  | _=>none
 | .bx id off=>match σ.b id with
  | some (.box row)=>some (off=off/\row.all wt=true,.opa off row)
  | _=>none
 | .el _ _ _ _=>none
 | .ag _=>none
 | .un=>none
 | .tup _=>none
 | .mb _ _=>none
 | d=>some (True,d)
def idC:D->Option Nat
 | .bs id _ _=>some id
 | .bx id _=>some id
 | _=>none
theorem RC.deep{g:Gh}{w:World}{p:Option Pos}{d:D}{v:Value}(h:RC g w p d v)(hd:wt d=true):Rep g.S g.up w p d v:=by
 cases d<;>first|exact h|cases hd
theorem Yz{x:Cx}{g:Gh}{σ:St}{a:Act}{w:World}(hr:Rel x g σ a w){y d:D}{ob:Prop}{u:Value}{p:Option Pos}(h:fdC σ y=some (ob,d))(ho:ob)(hu:RC g w p y u) :
  (idC y=none/\Rep g.S g.up w p d u)\/∃ id,idC y=some id/\Rep g.S g.up w (some (.root id)) d u:=by
 cases y with
 | bs id k n=>
  right
  simp only [fdC] at h
  split at h
  ·rename_i e k' rows hb
   injection h with h;injection h with e1 e2
   subst e1 e2;obtain ⟨rfl,hn⟩:=ho;obtain ⟨rfl,-⟩:=hu;exact ⟨id,rfl,Rep.osl_take (hr.ob id _ hb) n hn⟩
  ·cases h
 | bx id off=>
  right
  simp only [fdC] at h
  split at h
  ·rename_i row hb
   injection h with h;injection h with e1 e2
   subst e1 e2;obtain ⟨-,hd⟩:=ho;obtain ⟨b,hb',rfl⟩:=hu;obtain ⟨b0,cs,ty,b1,b2,b3,b4,b5⟩:=hr.ob id _ hb;rw [b1] at hb';injection hb' with hb';subst hb'
   exact ⟨id,rfl,.opa cs b2 b3 b4 fun j d hj=>(b5 j d hj).deep (List.all_eq_true.1 hd d (List.mem_of_getElem? hj))⟩
  ·cases h
 | el _ _ _ _=>cases h
 | ag _=>cases h
 | un=>cases h
 | tup _=>cases h
 | mb _ _=>cases h
 | _=>(simp only [fdC] at h;injection h with h;injection h with e1 e2;subst e2;exact .inl ⟨rfl,hu⟩)
theorem Rel.newArr{x:Cx}{g:Gh}{σ:St}{a:Act}{w w1:World}(h:Rel x g σ a w)(hw:w1=w\/w1=w.drew)(d e k:Nat)(rows:List (List D))(cs:Array Value)(c:Nat)(ids:List Nat)(tgt:Nat->Nat)(h1:rows.length<=c)(h2:c<=maxLen)(h3:cs.size=c*k)(hdP:isP d=false)
  (h4:∀ (i:Nat) (row:List D),rows[i]?=some row->row.length=k)
  (h5:∀ (i j:Nat) (row:List D) (y:D),rows[i]?=some row->row[j]?=some y->Rep g.S g.up w none y (cs.getD (i*k+j) undef)\/∃ id∈ids,tgt id=i*k+j/\Rep g.S g.up w (some (.root id)) y (cs.getD (i*k+j) undef)) :
  ∃ g',Rel x g' ((σ.sc (pOut (d::ids)) (pOut (d::ids))).setB d (.arr e k rows)) a (w1.alloc (.cells cs e))/\RC g' (w1.alloc (.cells cs e)) none (.bs d k rows.length) (.slice (some ⟨w.heap.size,0,none⟩) rows.length c):=by
 have hs1:w1.heap=w.heap:=by rcases hw with rfl|rfl<;>rfl
 have hb1:Below 0 w w1:=by rcases hw with rfl|rfl;exact Below.refl _ _;exact (Below.refl _ _).drew
 generalize hbn:w.heap.size=bn;have hold:∀ b,b<bn->(w1.alloc (.cells cs e)).heap[b]?=w.heap[b]?:=fun b hb=>by rw [Below.heap_alloc _ _ _ (by rw [hs1];omega),hs1]
 let π:Pos->Pos:=fun p=>match p with
  | .root id=>if id∈ids then .cell bn (tgt id) else .root id
  | p=>p
 have ev:Ev (fun _=>True) π (pOut (d::ids)) (pOut (d::ids)) g ⟨fun i=>if i=d then some bn else g.β i,fun i=>if i=d then c else g.κ i,fun b=>if b=bn then some (.root d) else (g.up b).map π,g.S⟩ w (w1.alloc (.cells cs e)):=by
  refine ⟨⟨fun b hb=>⟨hb,hold b (by have:=h.new b hb;omega)⟩,fun b p hb _=>?_,fun b p o _ _=>⟨trivial,rfl⟩⟩,fun i hi=>?_,fun i hi=>⟨hi,trivial,?_⟩⟩
  ·have hlt:=(h.own b p hb).1
   refine ⟨?_,hold b (by omega)⟩
   show (if b=bn then _ else _)=_
   rw [if_neg (by omega),hb];rfl
  ·have:=xy hi d (by simp)
   exact ⟨by show (if i=d then _ else _)=_;rw [if_neg this],by show (if i=d then _ else _)=_;rw [if_neg this]⟩
  ·show (if i∈ids then _ else _)=_
   rw [if_neg (fun q=>xy hi i (List.mem_cons_of_mem _ q) rfl)]
 have hR:=h.ev ev (hb1.trans ((Below.refl _ _).alloc (Nat.zero_le _) _)) (fun b hb hg=>hold b (by have:=h.bel.size;omega)) (fun b _ hs=>.inl hs) (fun b hs=>by rw [zq,hs1];have:=h.new b hs;omega) (fun b p hb=>by
  rw [zq,hs1];simp only at hb
  split at hb
  ·rename_i q
   subst q;exact ⟨by omega,fun q=>by have:=h.bel.size;omega,fun q=>by have:=h.new _ q;omega⟩
  ·obtain ⟨p',hp',-⟩:=Option.map_eq_some_iff.1 hb
   obtain ⟨o1,o2,o3⟩:=h.own b p' hp';exact ⟨by omega,o2,o3⟩)
 refine ⟨_,hR.setB (id:=d) (o:=.arr e k rows) ?_ (fun q=>by rw [hdP] at q;cases q),?_⟩
 ·show Rep _ _ _ _ _ _
  simp only [if_true,Option.map_some];refine .osl cs (by simp) (by rw [<- hbn,<- hs1];exact Ud _ _) h1 h2 h3 h4 fun i j row y hi hj=>?_
  rcases h5 i j row y hi hj with q|⟨id,hid,ht,q⟩
  ·have:=Rep.move ev.toMv q (fun z hz=>by cases hz)
   exact this.any _
  ·have:=Rep.move ev.toMv q (fun z hz=>trivial)
   simp only [Option.map_some,π,if_pos hid,ht] at this
   exact this
 ·exact ⟨by simp,by simpa using h1,by simpa using h2,fun q=>by simp at q⟩
theorem Rel.storeArr{x:Cx}{g:Gh}{σ:St}{a:Act}{w:World}(h:Rel x g σ a w)(id e k i off:Nat)(rows:List (List D))(xs:List D)(hb:σ.b id=some (.arr e k rows))(us:List Value)(ids:List Nat)(tgt:Nat->Nat)(hi:i<rows.length)(hl:off+xs.length<=k)(hid:id∉ids)(hul:us.length=xs.length)
  (h5:∀ (j:Nat) (y:D) (u:Value),xs[j]?=some y->us[j]?=some u->Rep g.S g.up w none y u\/∃ id∈ids,tgt id=j/\Rep g.S g.up w (some (.root id)) y u) {b:Nat} (hβ:g.β id=some b) :
  ∃ w' g',(storeCells ⟨b,i*k+off,none⟩ us).run x.P w=.ok () w'/\Rel x g' ((σ.sc (pOut ids) (pOut ids)).setB id (.arr e k (rows.set i (lay (rows.getD i []) off xs)))) a w':=by
 have hR0:Rep g.S g.up w (some (.root id)) (.osl e k rows) (.slice ((g.β id).map fun b=>⟨b,0,none⟩) rows.length (g.κ id)):=h.ob id _ hb
 rw [hβ,Option.map_some] at hR0
 cases hR0 with
 | @osl _ _ _ _ _ _ cs q1 q2 q3 q4 q5 q6 q7=>
  have hg:rows[i]?=some rows[i]:=List.getElem?_eq_getElem hi;have hrl:=q6 i _ hg;have hik:i*k+k<=cs.size:=by
   have h1:(i+1)*k<=g.κ id*k:=Nat.mul_le_mul_right _ (by omega)
   rw [Nat.add_mul,Nat.one_mul] at h1;omega
  have hone:∀ u∈us,u.oneCell'=true:=fun u hu=>by
   obtain ⟨j,hj,rfl⟩:=List.getElem_of_mem hu;rcases h5 j (xs[j]'(by rw [<- hul];exact hj)) us[j] (by rw [List.getElem?_eq_getElem]) (by rw [List.getElem?_eq_getElem]) with q|⟨_,_,_,q⟩<;>exact q.one
  have hr:=run_storeCells_at x.P b (i*k+off) e us 0 cs w q2 (by simp;omega) hone
  simp only [Nat.add_zero] at hr
  generalize hcs:(cs.toList.take (i*k+off)++us++cs.toList.drop (i*k+off+us.length)).toArray=cs' at hr
  have hcsl:cs'.toList=lay cs.toList (i*k+off) us:=by subst hcs;rfl
  have hfit:i*k+off+us.length<=cs.toList.length:=by have hcl:cs.toList.length=cs.size:=Array.length_toList;omega
  let π:Pos->Pos:=fun p=>match p with
   | .root m=>if m∈ids then .cell b (i*k+off+tgt m) else .root m
   | p=>p
  have ev:Ev (fun p=>p≠.root id) π (pOut ids) (pOut (id::ids)) g ⟨g.β,g.κ,fun c=>(g.up c).map π,g.S⟩ w (w.setRow b cs'):=by
   refine ⟨⟨fun c hc=>⟨hc,setRow_other _ _ _ _ (fun e=>(h.own b _ q1).2.2 (e ▸ hc))⟩,fun c p hc hp=>⟨by show (g.up c).map π=_;rw [hc];rfl,setRow_other _ _ _ _ (fun e=>?_)⟩,fun c p o _ _=>⟨by simp,rfl⟩⟩,fun m _=>⟨rfl,rfl⟩,fun m hm=>⟨?_,?_,?_⟩⟩
   ·subst e;rw [q1] at hc;injection hc with hc;exact hp hc.symm
   ·simp only [pOut,Bool.and_eq_true] at hm;exact hm.2
   ·have:=xy hm id (by simp)
    intro e;injection e with e;exact this e
   ·show (if m∈ids then _ else _)=_
    rw [if_neg (fun q=>xy hm m (List.mem_cons_of_mem _ q) rfl)]
  have hR:=h.ev ev ⟨rfl,rfl,rfl,by simp,fun c hc=>by omega⟩ (fun c hc hg=>setRow_other _ _ _ _ (fun e=>hg (e ▸ (h.own b _ q1).2.1 (e ▸ hc)))) (fun c _ hs=>.inl hs) (fun c hs=>by simpa using h.new c hs) (fun c p hc=>by
   simp only at hc
   obtain ⟨p',hp',-⟩:=Option.map_eq_some_iff.1 hc
   simpa using h.own c p' hp')
  have hset:=hR.setB (id:=id) (o:=.arr e k (rows.set i (lay (rows.getD i []) off xs))) (by
   show Rep _ _ _ _ _ _;simp only [hβ,Option.map_some];have key:=Rep.osl (S:=g.S) (up:=fun c=>(g.up c).map π) (w:=w.setRow b cs') (p:=.root id) (e:=e) (k:=k) (rows:=rows.set i (lay (rows.getD i []) off xs)) (b:=b) (c:=g.κ id) cs' (by
    show (g.up b).map π=_;rw [q1];show some (if id∈ids then _ else _)=_
    rw [if_neg hid]) (setRow_heap _ _ _ _ _ _ q2) (by simpa using q3) q4 (by rw [<- Array.length_toList,hcsl,lay_len hfit,Array.length_toList];exact q5) (fun i' row hi'=>?_) (fun i' j row y hi' hj=>?_)
   ·exact key
   ·rw [List.getElem?_set] at hi'
    split at hi'
    ·rename_i e;subst e
     injection hi' with hi'
     subst hi';rw [lay_len (by rw [ym hg,hrl];exact hl),ym hg,hrl]
    ·exact q6 i' row hi'
   ·have hgd:∀ m,cs'.getD m undef=(lay cs.toList (i*k+off) us).getD m undef:=fun m=>by
     rw [List.getD_eq_getElem?_getD,Array.getD_eq_getD_getElem?,<- hcsl,Array.getElem?_toList]
    have keep:∀ (row0:List D),rows[i']?=some row0->row0[j]?=some y->¬ (i*k+off<=i'*k+j/\i'*k+j<i*k+off+us.length)->Rep g.S (fun c=>(g.up c).map π) (w.setRow b cs') (some (.cell b (i'*k+j))) y (cs'.getD (i'*k+j) undef):=by
     intro row0 r1 r2 r3;have:=Rep.move ev.toMv (q7 i' j row0 y r1 r2) (fun z hz=>by injection hz with hz;subst hz;simp)
     rw [hgd,List.getD_eq_getElem?_getD,zx hfit,if_neg r3,Array.getElem?_toList,<- Array.getD_eq_getD_getElem?];exact this
    rw [List.getElem?_set] at hi'
    split at hi'
    ·rename_i e;subst e
     injection hi' with hi'
     subst hi';rw [ym hg,zx (by rw [hrl];exact hl)] at hj
     split at hj
     ·rename_i hjo
      have hlt:j - off<us.length:=by omega
      have hu:us[j - off]?=some us[j - off]:=List.getElem?_eq_getElem hlt;rw [hgd,List.getD_eq_getElem?_getD,zx hfit,if_pos (by omega),show i*k+j - (i*k+off)=j - off by omega,hu]
      rcases h5 _ y _ hj hu with q|⟨m,hm,ht,q⟩
      ·exact (Rep.move ev.toMv q (fun z hz=>by cases hz)).any _
      ·have:=Rep.move ev.toMv q (fun z hz=>by injection hz with hz;subst hz;intro e;injection e with e;exact hid (e ▸ hm))
       simp only [Option.map_some,π,if_pos hm,ht] at this
       rw [show i*k+off+(j - off)=i*k+j by omega] at this
       exact this
     ·rename_i hjo
      exact keep _ hg hj (by omega)
    ·rename_i hne
     have hjk:j<k:=by rw [<- q6 i' row hi'];exact (List.getElem?_eq_some_iff.1 hj).1
     refine keep row hi' hj fun ⟨c1,c2⟩=>?_
     rcases Nat.lt_or_gt_of_ne hne with r|r
     ·have:(i+1)*k<=i'*k:=Nat.mul_le_mul_right _ r
      rw [Nat.add_mul,Nat.one_mul] at this;omega
     ·have:(i'+1)*k<=i*k:=Nat.mul_le_mul_right _ r
      rw [Nat.add_mul,Nat.one_mul] at this;omega) (h.par id _ hb)
  refine ⟨_,_,hr,hset.bel,hset.fr,hset.dfr,hset.sz,hset.tm,hset.s0,hset.old,hset.new,hset.own,fun m o hm=>?_,fun m o hm hq=>?_⟩
  ·simp only [St.setB,St.sc] at hm
   split at hm
   ·rename_i e;subst e
    exact hset.ob m o (by simp only [St.setB,if_true];exact hm)
   ·rename_i hne
    refine hset.ob m o ?_;simp only [St.setB,if_neg hne,St.sc];rw [show pOut (id::ids) m=pOut ids m by simp [pOut,hne]]
    exact hm
  ·simp only [St.setB,St.sc] at hm
   split at hm
   ·rename_i e;subst e;exact h.par m _ hb hq
   ·split at hm
    ·obtain ⟨o',h1,rfl⟩:=Option.map_eq_some_iff.1 hm
     exact h.par m o' h1 hq
    ·cases hm
theorem Rel.storeHol{x:Cx}{g:Gh}{σ:St}{a:Act}{w:World}(h:Rel x g σ a w)(id e k i0 c0:Nat)(rows:List (List D))(r d:D)(hb:σ.b id=some (.hol e k rows i0 c0 r))(us:List Value)(h1:RCs g w [d] us){b:Nat}(hβ:g.β id=some b) :
  ∃ w',(storeCells ⟨b,i0*k+c0,none⟩ us).run x.P w=.ok () w'/\Rel x g (σ.setB id (.hol e k rows i0 c0 d)) a w':=by
 obtain ⟨b',cs,b1,b2,b3,b4,b5,b6,b7,b8,b9,b10,b11⟩:=h.ob id _ hb;rw [hβ] at b1;injection b1 with b1;subst b1
 have hul:us.length=1:=h1.1;have hone:∀ u∈us,u.oneCell'=true:=fun u hu=>by
  obtain ⟨j,hj,rfl⟩:=List.getElem_of_mem hu;exact (h1.2 j ([d][j]'(by rw [hul] at hj;exact hj)) us[j] (by rw [List.getElem?_eq_getElem]) (by rw [List.getElem?_eq_getElem])).one
 have hik:i0*k+k<=cs.size:=by
  have q1:(i0+1)*k<=g.κ id*k:=Nat.mul_le_mul_right _ (by omega)
  rw [Nat.add_mul,Nat.one_mul] at q1;omega
 have hr:=run_storeCells_at x.P b (i0*k+c0) e us 0 cs w b3 (by simp;omega) hone
 refine ⟨_,hr,?_⟩;simp only [Nat.add_zero];generalize hcs:(cs.toList.take (i0*k+c0)++us++cs.toList.drop (i0*k+c0+us.length)).toArray=cs';have hcsl:cs'.toList=lay cs.toList (i0*k+c0) us:=by subst hcs;rfl
 have hfit:i0*k+c0+us.length<=cs.toList.length:=by have hcl:cs.toList.length=cs.size:=Array.length_toList;omega
 have hgd:∀ m,cs'.getD m undef=(lay cs.toList (i0*k+c0) us).getD m undef:=fun m=>by
  rw [List.getD_eq_getElem?_getD,Array.getD_eq_getD_getElem?,<- hcsl,Array.getElem?_toList]
 have ev:Ev (fun p=>p≠.root id) (fun p=>p) pAll (pOut [id]) g g w (w.setRow b cs'):=by
  refine ⟨⟨fun c hc=>⟨hc,setRow_other _ _ _ _ (fun e=>(h.own b _ b2).2.2 (e ▸ hc))⟩,fun c p hc hp=>⟨hc,setRow_other _ _ _ _ (fun e=>?_)⟩,fun c p o _ _=>⟨by simp,rfl⟩⟩,fun i _=>⟨rfl,rfl⟩,fun i hi=>⟨rfl,?_,rfl⟩⟩
  ·subst e;rw [b2] at hc;injection hc with hc;exact hp hc.symm
  ·have:=xy hi id (by simp)
   intro e;injection e with e;exact this e
 have hR:=h.ev ev ⟨rfl,rfl,rfl,by simp,fun c hc=>by omega⟩ (fun c hc hg=>setRow_other _ _ _ _ (fun e=>hg (e ▸ (h.own b _ b2).2.1 (e ▸ hc)))) (fun c _ hs=>.inl hs) (fun c hs=>by simpa using h.new c hs) (fun c p hc=>by simpa using h.own c p hc)
 have hrow:=h1.ev ev;rw [vO] at hrow
 have hset:=hR.setB (id:=id) (o:=.hol e k rows i0 c0 d) ⟨b,cs',hβ,b2,setRow_heap _ _ _ _ _ _ b3,b4,b5,by rw [<- Array.length_toList,hcsl,lay_len hfit,Array.length_toList];exact b6,b7,b8,b9,?_,fun i j row y r1 r2 r3=>?_⟩ (h.par id _ hb)
 ·refine ⟨hset.bel,hset.fr,hset.dfr,hset.sz,fun i=>?_,hset.s0,hset.old,hset.new,hset.own,fun i o hi=>?_,fun i o hi hq=>?_⟩
  ·have:=hset.tm i
   simp only [St.setB,St.sc,Qe] at this
   exact this
  ·simp only [St.setB] at hi
   split at hi
   ·rename_i e;subst e
    exact hset.ob i o (by simp only [St.setB,if_true];exact hi)
   ·rename_i e
    refine hset.ob i o ?_;simp only [St.setB,if_neg e,St.sc];rw [if_pos (by simp [pOut,e]),hi,Option.map_some,Qd]
  ·simp only [St.setB] at hi
   split at hi
   ·rename_i e;subst e;exact h.par i _ hb hq
   ·exact h.par i o hi hq
 ·have hu:us[0]?=some (us[0]'(by omega)):=List.getElem?_eq_getElem _
  have:=hrow.2 0 d _ rfl hu;rw [hgd,List.getD_eq_getElem?_getD,zx hfit,if_pos (by omega),Nat.sub_self,hu]
  exact this.any _
 ·have hjk:j<k:=by rw [<- b7 i row r1];exact (List.getElem?_eq_some_iff.1 r2).1
  have hne:i*k+j≠i0*k+c0:=by
   intro q;rcases Nat.lt_trichotomy i i0 with z|z|z
   ·have:(i+1)*k<=i0*k:=Nat.mul_le_mul_right _ z
    rw [Nat.add_mul,Nat.one_mul] at this;omega
   ·subst z;exact r3 ⟨rfl,by omega⟩
   ·have:(i0+1)*k<=i*k:=Nat.mul_le_mul_right _ z
    rw [Nat.add_mul,Nat.one_mul] at this;omega
  have:=Rep.move ev.toMv (b11 i j row y r1 r2 r3) (fun z hz=>by injection hz with hz;subst hz;simp)
  rw [hgd,List.getD_eq_getElem?_getD,zx hfit,if_neg (by omega),Array.getElem?_toList,<- Array.getD_eq_getD_getElem?]
  exact this
def Src(g:Gh)(w:World)(k:Nat)(rows:List (List D))(vals:List Value)(src:Option Nat):Prop:=
 vals.length=rows.length*k/\(∀ (i:Nat) (row:List D),rows[i]?=some row->row.length=k) /\
 ∀ (i j:Nat) (row:List D) (d:D),rows[i]?=some row->row[j]?=some d->∃ u,vals[i*k+j]?=some u/\(Rep g.S g.up w none d u\/∃ b,src=some b/\Rep g.S g.up w (some (.cell b (i*k+j))) d u)
theorem Src.one{g:Gh}{w:World}{k:Nat}{rows:List (List D)}{vals:List Value}{src:Option Nat}(h:Src g w k rows vals src)(hk:0<k):∀ u∈vals,u.oneCell'=true:=by
 intro u hu;obtain ⟨q,hq,rfl⟩:=List.getElem_of_mem hu;obtain ⟨h1,h2,h3⟩:=h;rw [h1] at hq
 have hi:q / k<rows.length:=(Nat.div_lt_iff_lt_mul hk).2 hq;have hr:=List.getElem?_eq_getElem hi;have hj:q % k<(rows[q / k]).length:=by rw [h2 _ _ hr];exact Nat.mod_lt _ hk
 obtain ⟨v,hv,hR⟩:=h3 _ _ _ _ hr (List.getElem?_eq_getElem hj);have e:q / k*k+q % k=q:=by rw [Nat.mul_comm];exact Nat.div_add_mod q k
 rw [e,List.getElem?_eq_getElem (by rw [h1];exact hq)] at hv
 injection hv with hv
 rw [hv];rcases hR with r|⟨_,_,r⟩<;>exact r.one
theorem Rep.vals{g:Gh}{w:World}{p:Option Pos}{k:Nat}{rows:List (List D)}{a:Option Addr}{n c:Nat}(h:Rep g.S g.up w p (.sl k rows) (.slice a n c))(hk:0<k)(hn:0<rows.length) :
  ∃ ad vals,a=some ad/\n=rows.length/\Src g w k rows vals none/\∀ j v,vals[j]?=some v->w.cell? (ad.add j)=some v:=by
 cases h with
 | sl0 _=>simp at hn
 | @sl _ _ _ b off c us c1 c2 c3 c4 c5=>
  let vals:=(List.range (rows.length*k)).map fun q=>us (q / k) (q % k)
  have hdiv:∀ i j,j<k->(i*k+j) / k=i/\(i*k+j) % k=j:=by
   intro i j hj
   constructor
   ·rw [Nat.add_comm,Nat.add_mul_div_right _ _ hk,Nat.div_eq_of_lt hj,Nat.zero_add]
   ·rw [Nat.add_comm,Nat.add_mul_mod_self_right,Nat.mod_eq_of_lt hj]
  refine ⟨_,vals,rfl,rfl,⟨by simp [vals],c3,fun i j row d hi hj=>?_⟩,fun q v hq=>?_⟩
  ·have hjk:j<k:=by rw [<- c3 i row hi];exact (List.getElem?_eq_some_iff.1 hj).1
   have hik:=(List.getElem?_eq_some_iff.1 hi).1;have hlt:i*k+j<rows.length*k:=by
    have:(i+1)*k<=rows.length*k:=Nat.mul_le_mul_right _ hik;rw [Nat.add_mul,Nat.one_mul] at this;omega
   refine ⟨us i j,?_,.inl (c5 i j row d hi hj)⟩
   simp [vals,hlt,hdiv i j hjk]
  ·have hlt:q<rows.length*k:=by
    rcases Nat.lt_or_ge q (rows.length*k) with r|r
    ·exact r
    ·rw [List.getElem?_eq_none (by simpa [vals] using r)] at hq;cases hq
   have hv:us (q / k) (q % k)=v:=by simpa [vals,hlt] using hq
   subst hv;have h1:q / k<rows.length:=(Nat.div_lt_iff_lt_mul hk).2 hlt;have hr:=List.getElem?_eq_getElem h1;have h3:q % k<(rows[q / k]).length:=by rw [c3 _ _ hr];exact Nat.mod_lt _ hk
   have:=(c4 _ _ _ _ hr (List.getElem?_eq_getElem h3)).2;rw [Nat.add_assoc,show q / k*k+q % k=q by rw [Nat.mul_comm];exact Nat.div_add_mod q k] at this
   rw [add_lit];exact this
theorem Rep.osl_w{S:Nat->Prop}{up:Nat->Option Pos}{w:World}{p:Option Pos}{e k:Nat}{rows:List (List D)}{v:Value}(h:Rep S up w p (.osl e k rows) v):∀ (i:Nat) (row:List D),rows[i]?=some row->row.length=k:=by
 cases h with
 | osl0=>intro i row hi;simp at hi
 | osl cs q1 q2 q3 q4 q5 q6 q7=>exact q6
theorem Rep.ovals{g:Gh}{w:World}{p:Pos}{e k:Nat}{rows:List (List D)}{b n c:Nat}(h:Rep g.S g.up w (some p) (.osl e k rows) (.slice (some ⟨b,0,none⟩) n c))(hn:n=rows.length) :
  g.up b=some p/\∃ vals,Src g w k rows vals (some b)/\∀ j v,vals[j]?=some v->w.cell? ((⟨b,0,none⟩:Addr).add j)=some v:=by
 subst hn;generalize hv:Value.slice (some ⟨b,0,none⟩) rows.length c=v at h
 cases h with
 | osl0=>cases hv
 | @osl _ _ _ _ b' c' cs q1 q2 q3 q4 q5 q6 q7=>
  injection hv with hv _ hc
  injection hv with hv;injection hv with hv
  subst hv;have hle:rows.length*k<=cs.size:=by rw [q5];exact Nat.mul_le_mul_right _ q3
  refine ⟨q1,cs.toList.take (rows.length*k),⟨by have hcl:cs.toList.length=cs.size:=Array.length_toList;rw [List.length_take];omega,q6,fun i j row d hi hj=>?_⟩,fun j v hj=>?_⟩
  ·have hjk:j<k:=by rw [<- q6 i row hi];exact (List.getElem?_eq_some_iff.1 hj).1
   have hik:=(List.getElem?_eq_some_iff.1 hi).1;have hlt:i*k+j<rows.length*k:=by
    have:(i+1)*k<=rows.length*k:=Nat.mul_le_mul_right _ hik;rw [Nat.add_mul,Nat.one_mul] at this;omega
   refine ⟨cs.getD (i*k+j) undef,?_,.inr ⟨b,rfl,q7 i j row d hi hj⟩⟩;rw [List.getElem?_take_of_lt hlt,Array.getElem?_toList];exact wz (by omega)
  ·have hlt:j<rows.length*k:=by
    have:=(List.getElem?_eq_some_iff.1 hj).1;rw [List.length_take] at this;omega
   rw [List.getElem?_take_of_lt hlt,Array.getElem?_toList] at hj
   rw [add_lit];simp only [World.cell?,q2,Nat.zero_add];rw [if_neg (by simp)];exact hj
theorem Rel.regrow{x:Cx}{g:Gh}{σ:St}{a:Act}{w w':World}(h:Rel x g σ a w){id e k n:Nat}{rows rows':List (List D)}{vals:List Value}{src:Option Nat}{ids:List Nat}(hb:σ.b id=some (.arr e k rows))(hn:n<=rows.length)(hid:id∉ids)(nid:Nat)(hnP:isP nid=false)
  (hsrc:∀ b,src=some b->∃ m∈ids,g.up b=some (.root m)) (hS:Src g w k rows' vals src) (bn:Nat) (cs:Array Value) (c:Nat) (hbn:bn=w.heap.size\/g.β id=some bn) (hw:∀ b,b<w.heap.size->g.β id≠some b->w'.heap[b]?=w.heap[b]?) (hbel:Below 0 w w')
  (hlt:bn<w'.heap.size) (hh:w'.heap[bn]?=some (.cells cs e (0,0))) (h1:n+rows'.length<=c) (h2:c<=maxLen) (h3:cs.size=c*k)
  (hold:∀ b cs0,g.β id=some b->w.heap[b]?=some (.cells cs0 e (0,0))->∀ j,j<n*k->cs.getD j undef=cs0.getD j undef) (hnew:∀ j u,vals[j]?=some u->cs.getD (n*k+j) undef=u) :
  ∃ g',Rel x g' ((σ.sc (pOut (nid::id::ids)) (pOut (nid::id::ids))).setB nid (.arr e k (rows.take n++rows'))) a w'/\RC g' w' none (.bs nid k (n+rows'.length)) (.slice (some ⟨bn,0,none⟩) (n+rows'.length) c):=by
 have hR0:Rep g.S g.up w (some (.root id)) (.osl e k rows) (.slice ((g.β id).map fun b=>⟨b,0,none⟩) rows.length (g.κ id)):=h.ob id _ hb
 have hup:∀ b,g.β id=some b->g.up b=some (.root id):=fun b q=>by
  rw [q,Option.map_some] at hR0
  exact (Rep.ovals hR0 rfl).1
 have hsne:∀ b,src=some b->g.β id≠some b:=fun b q r=>by
  obtain ⟨m,hm,e'⟩:=hsrc b q;rw [hup b r] at e';injection e' with e';injection e' with e'
  exact hid (e' ▸ hm)
 let π:Pos->Pos:=fun p=>match p with
  | .cell b o=>if src=some b then .cell bn (n*k+o) else if g.β id=some b then .cell bn o else .cell b o
  | p=>p
 have ev:Ev (fun p=>∀ m∈nid::id::ids,p≠.root m) π (pOut (nid::id::ids)) (pOut (nid::id::ids)) g ⟨fun i=>if i=nid then some bn else g.β i,fun i=>if i=nid then c else g.κ i,fun b=>if b=bn then some (.root nid) else (g.up b).map π,g.S⟩ w w':=by
  refine ⟨⟨fun b hs=>⟨hs,hw b (h.new b hs) (fun q=>(h.own b _ (hup b q)).2.2 hs)⟩,fun b p hp ho=>?_,fun b p o hp ho=>⟨fun m _=>by simp,?_⟩⟩,fun i hi=>?_,fun i hi=>⟨hi,fun m hm e'=>?_,rfl⟩⟩
  ·have hbl:=(h.own b p hp).1
   have hne:g.β id≠some b:=fun q=>by
    have:=hup b q;rw [hp] at this;injection this with this
    exact ho id (by simp) this
   refine ⟨?_,hw b hbl hne⟩;show (if b=bn then _ else _)=_
   rw [if_neg (fun q=>?_),hp];rfl
   rcases hbn with r|r
   ·omega
   ·exact hne (q ▸ r)
  ·show (if src=some b then _ else if g.β id=some b then _ else _)=_
   rw [if_neg (fun q=>?_),if_neg (fun q=>?_)]
   ·have:=hup b q
    rw [hp] at this;injection this with this
    exact ho id (by simp) this
   ·obtain ⟨m,hm,e'⟩:=hsrc b q
    rw [hp] at e';injection e' with e'
    exact ho m (List.mem_cons_of_mem _ (List.mem_cons_of_mem _ hm)) e'
  ·have:=xy hi nid (by simp)
   exact ⟨by show (if i=nid then _ else _)=_;rw [if_neg this],by show (if i=nid then _ else _)=_;rw [if_neg this]⟩
  ·injection e' with e';exact xy hi m hm e'
 have hR:=h.ev ev hbel (fun b hb' hg=>hw b (by have:=h.bel.size;omega) (fun q=>hg ((h.own b _ (hup b q)).2.1 hb'))) (fun b _ hs=>.inl hs) (fun b hs=>by have:=h.new b hs;have:=hbel.size;omega) (fun b p hp=>by
  simp only at hp
  split at hp
  ·rename_i q
   subst q;refine ⟨hlt,fun q=>?_,fun q=>?_⟩
   ·rcases hbn with r|r
    ·have:=h.bel.size;omega
    ·exact (h.own b _ (hup b r)).2.1 q
   ·rcases hbn with r|r
    ·have:=h.new _ q;omega
    ·exact (h.own b _ (hup b r)).2.2 q
  ·obtain ⟨p',hp',-⟩:=Option.map_eq_some_iff.1 hp
   obtain ⟨o1,o2,o3⟩:=h.own b p' hp';exact ⟨by have:=hbel.size;omega,o2,o3⟩)
 have hln:(rows.take n).length=n:=by rw [List.length_take];omega
 obtain ⟨s1,s2,s3⟩:=hS;refine ⟨_,hR.setB (id:=nid) (o:=.arr e k (rows.take n++rows')) ?_ (fun q=>by rw [hnP] at q;cases q),?_⟩
 ·show Rep _ _ _ _ _ _
  simp only [if_true,Option.map_some];refine .osl cs (by simp) hh (by rw [List.length_append,hln];exact h1) h2 h3 (fun i row hi=>?_) (fun i j row y hi hj=>?_)
  ·rcases Nat.lt_or_ge i n with q|q
   ·rw [List.getElem?_append_left (by omega),List.getElem?_take_of_lt q] at hi
    exact hR0.osl_w i row hi
   ·rw [List.getElem?_append_right (by omega)] at hi;exact s2 _ row hi
  ·rcases Nat.lt_or_ge i n with q|q
   ·rw [List.getElem?_append_left (by omega),List.getElem?_take_of_lt q] at hi
    generalize hvv:Value.slice ((g.β id).map fun b=>(⟨b,0,none⟩:Addr)) rows.length (g.κ id)=vv at hR0
    cases hR0 with
    | osl0=>simp at hi
    | @osl _ _ _ _ bo co cs0 q1 q2 q3 q4 q5 q6 q7=>
     have hβ:g.β id=some bo:=by
      injection hvv with hvv _ _
      cases hq:g.β id with
      | none=>rw [hq] at hvv;cases hvv
      | some b'=>rw [hq] at hvv;injection hvv with hvv;injection hvv with hvv;rw [hvv]
     have hjk:j<k:=by rw [<- q6 i row hi];exact (List.getElem?_eq_some_iff.1 hj).1
     have hlt':i*k+j<n*k:=by
      have:(i+1)*k<=n*k:=Nat.mul_le_mul_right _ q;rw [Nat.add_mul,Nat.one_mul] at this;omega
     have:=Rep.move ev.toMv (q7 i j row y hi hj) (fun z hz=>by injection hz with hz;subst hz;intro m _;simp)
     simp only [Option.map_some,π,if_neg (fun r=>hsne bo r hβ),if_pos hβ] at this
     rw [hold bo cs0 hβ q2 _ hlt'];exact this
   ·rw [List.getElem?_append_right (by omega),hln] at hi
    obtain ⟨u,hu,hr⟩:=s3 _ j row y hi hj;have e1:n*k+((i - n)*k+j)=i*k+j:=by
     rw [<- Nat.add_assoc,<- Nat.add_mul];congr 2;omega
    have:=hnew _ u hu;rw [e1] at this
    rw [this];rcases hr with hr|⟨b,hb',hr⟩
    ·exact (Rep.move ev.toMv hr (fun z hz=>by cases hz)).any _
    ·have:=Rep.move ev.toMv hr (fun z hz=>by injection hz with hz;subst hz;intro m _;simp)
     simp only [Option.map_some,π,if_pos hb',e1] at this
     exact this
 ·exact ⟨by simp,by simpa using h1,by simpa using h2,fun q=>by simp at q⟩
theorem Vx{P:Program}(w:World)(t ty e:TypeId)(i:TypeInfo)(ht:P.underlying t=some (.slice e))(hi:P.info? e=some i)(base:Option Addr)(n cap:Nat)(hn:n<=cap)(a:Option Addr)(c:Nat) :
  (Builtin.append_ #[t,t] ty #[.slice base n cap,.slice a 0 c]).run P w=.ok (.slice base n cap) w:=by
 cases a<;>cases base<;>simp [Builtin.append_,run_underlying ht,sizeOf,typeInfo,hi,Builtin.lenOf,Builtin.firstCells,loadCells,loadCellsFrom,storeCells,hn]
theorem VE(xs news:List Value)(z:Array Value)(n k j:Nat)(u:Value)(hx:xs.length=n)(hj:news[j]?=some u):(xs.toArray++news.toArray++Builtin.zeroCells z k).getD (n+j) undef=u:=by
 have hl:=(List.getElem?_eq_some_iff.1 hj).1;rw [Array.getD_eq_getD_getElem?,<- Array.getElem?_toList];simp only [Array.toList_append,List.append_assoc];rw [List.getElem?_append_right (by omega),hx,Nat.add_sub_cancel_left,List.getElem?_append_left hl,hj];rfl
theorem Rel.appendPos{x:Cx}{g:Gh}{σ:St}{a:Act}{w:World}(h:Rel x g σ a w){t ty e k by_:Nat}{z:List D}(hk:tk x.P t=.sl e k by_ z){id n:Nat}{rows rows':List (List D)}{vals:List Value}{src:Option Nat}{ids:List Nat}(hb:σ.b id=some (.arr e k rows))(hn:n<=rows.length)(hid:id∉ids)(nid:Nat)(hnP:isP nid=false)
  (hsrc:∀ b,src=some b->∃ m∈ids,g.up b=some (.root m)) (hS:Src g w k rows' vals src) (ad:Addr) (c:Nat) (hcells:∀ j v,vals[j]?=some v->w.cell? (ad.add j)=some v) (hpos:0<rows'.length) (hroom:(n+rows'.length)*by_<=140737488355328) (hmax:n+rows'.length<=maxLen) {v:Value} (hv:RC g w none (.bs id k n) v) :
  ∃ v' w' g',(Builtin.append_ #[t,t] ty #[v,.slice (some ad) rows'.length c]).run x.P w=.ok v' w'/\Rel x g' ((σ.sc (pOut (nid::id::ids)) (pOut (nid::id::ids))).setB nid (.arr e k (rows.take n++rows'))) a w'/\RC g' w' none (.bs nid k (n+rows'.length)) v':=by
 obtain ⟨ht,i,zv,hi,hz,hsz,hby,hzs,hk0,hz1,-,-⟩:=zF hk;subst hsz;obtain ⟨rfl,v1,v2,v3⟩:=hv;have hR0:Rep g.S g.up w (some (.root id)) (.osl e i.size rows) (.slice ((g.β id).map fun b=>⟨b,0,none⟩) rows.length (g.κ id)):=h.ob id _ hb
 have hvl:=hS.1;have hsmall:n+rows'.length<=9223372036854775807:=by simp only [maxLen] at hmax;omega
 have hpush:∀ (o:Obj) (b:Nat),b<w.heap.size->(w.drew.alloc o).heap[b]?=w.heap[b]?:=fun o b hb=>Below.heap_alloc w.drew _ _ hb
 have hsz1:∀ o:Obj,(w.drew.alloc o).heap.size=w.heap.size+1:=fun o=>by rw [zq];rfl
 cases hβ:g.β id with
 | none=>
  have hn0:n=0:=by have:=v3 hβ;omega
  subst hn0;have hκ:=v3 hβ;simp only [Option.map_none,hκ];simp only [Nat.zero_add] at *
  have hr:=run_append_nil (P:=x.P) w t ty e i zv ht hi hz ad rows'.length c vals hvl hcells hpos (by omega) (by rw [hby];omega)
  have hge:=grownCap_ge w rows'.length 0 e;obtain ⟨g',q1,q2⟩:=h.regrow (n:=0) hb (Nat.zero_le _) hid nid hnP hsrc hS w.heap.size (vals.toArray++Builtin.zeroCells zv.cells (grownCap w rows'.length 0 e - rows'.length)) (grownCap w rows'.length 0 e) (.inl rfl)
   (w':=w.drew.alloc (.cells (vals.toArray++Builtin.zeroCells zv.cells (grownCap w rows'.length 0 e - rows'.length)) e)) (fun b hb _=>hpush _ b hb) ((Below.refl _ _).drew.trans ((Below.refl _ _).alloc (Nat.zero_le _) _)) (by rw [hsz1];omega) (heap_alloc_new w.drew _) (by omega) (grownCap_le_maxLen w _ 0 e hmax) (by
    simp only [Array.size_append,List.size_toArray,size_zeroCells,hzs,hvl,<- Nat.add_mul]
    congr 1;omega) (fun b _ q=>by rw [hβ] at q;cases q) (fun j u hj=>by
    have:=VE [] vals zv.cells 0 (grownCap w rows'.length 0 e - rows'.length) j u rfl hj;rw [Nat.zero_mul];simpa using this)
  simp only [Nat.zero_add] at q1 q2
  exact ⟨_,_,g',hr,q1,q2⟩
 | some bo=>
  rw [hβ,Option.map_some] at hR0
  simp only [Option.map_some];cases hR0 with
  | @osl _ _ _ _ _ _ cs q1 q2 q3 q4 q5 q6 q7=>
   have hle:n*i.size<=cs.size:=by rw [q5];exact Nat.mul_le_mul_right _ v1
   by_cases hfit:n+rows'.length<=g.κ id
   ·have hfit':n*i.size+vals.length<=cs.size:=by rw [hvl,q5,<- Nat.add_mul];exact Nat.mul_le_mul_right _ hfit
    have hr:=run_append_room (P:=x.P) w t ty e i ht hi bo n (g.κ id) cs q2 ad rows'.length c vals hvl hcells (hS.one hk0) hfit hfit';generalize hnew:(cs.toList.take (n*i.size)++vals++cs.toList.drop (n*i.size+vals.length)).toArray=cs' at hr
    have hcl:cs.toList.length=cs.size:=Array.length_toList;have hlay:cs'.toList=lay cs.toList (n*i.size) vals:=by subst hnew;rfl
    have hgd:∀ m,cs'.getD m undef=(lay cs.toList (n*i.size) vals).getD m undef:=fun m=>by
     rw [List.getD_eq_getElem?_getD,Array.getD_eq_getD_getElem?,<- hlay,Array.getElem?_toList]
    obtain ⟨g',r1,r2⟩:=h.regrow hb hn hid nid hnP hsrc hS bo cs' (g.κ id) (.inr hβ) (w':=w.setRow bo cs') (fun b _ hne=>setRow_other _ _ _ _ (fun e=>hne (by rw [hβ,e]))) ⟨rfl,rfl,rfl,by simp,fun c hc=>by omega⟩ (by
     rw [setRow_size];exact (h.own bo _ q1).1) (setRow_heap w bo cs _ e _ q2) hfit v2 (by rw [<- Array.length_toList,hlay,lay_len (by omega),hcl];exact q5) (fun b cs0 hb' hc0 j hj=>by
      rw [hβ] at hb';injection hb' with hb';subst hb'
      rw [q2] at hc0;injection hc0 with hc0;injection hc0 with hc0;subst hc0
      rw [hgd,List.getD_eq_getElem?_getD,zx (by omega),if_neg (by omega),Array.getElem?_toList,<- Array.getD_eq_getD_getElem?]) (fun j u hj=>by
      have hl:=(List.getElem?_eq_some_iff.1 hj).1;rw [hgd,List.getD_eq_getElem?_getD,zx (by omega),if_pos (by omega),Nat.add_sub_cancel_left,hj];rfl)
    exact ⟨_,_,g',hr,r1,r2⟩
   ·have hcl:cs.toList.length=cs.size:=Array.length_toList
    have hol:(cs.toList.take (n*i.size)).length=n*i.size:=by rw [List.length_take];omega
    have holds:∀ j u,(cs.toList.take (n*i.size))[j]?=some u->w.cell? ((⟨bo,0,none⟩:Addr).add j)=some u:=fun j u hj=>by
     have hlt:=(List.getElem?_eq_some_iff.1 hj).1;rw [hol] at hlt
     rw [List.getElem?_take_of_lt hlt,Array.getElem?_toList] at hj
     rw [add_lit];simp only [World.cell?,q2,Nat.zero_add];rw [if_neg (by simp)];exact hj
    have hr:=run_append_grow (P:=x.P) w t ty e i zv ht hi hz ⟨bo,0,none⟩ n (g.κ id) _ hol holds ad rows'.length c vals hvl hcells (by omega) (by omega) (growslice_fits (by omega) (by rw [hby];exact hroom))
    have hge:=grownCap_ge w (n+rows'.length) (g.κ id) e;obtain ⟨g',r1,r2⟩:=h.regrow hb hn hid nid hnP hsrc hS w.heap.size ((cs.toList.take (n*i.size)).toArray++vals.toArray++Builtin.zeroCells zv.cells (grownCap w (n+rows'.length) (g.κ id) e - (n+rows'.length))) (grownCap w (n+rows'.length) (g.κ id) e) (.inl rfl)
     (w':=w.drew.alloc (.cells ((cs.toList.take (n*i.size)).toArray++vals.toArray++Builtin.zeroCells zv.cells (grownCap w (n+rows'.length) (g.κ id) e - (n+rows'.length))) e)) (fun b hb _=>hpush _ b hb) ((Below.refl _ _).drew.trans ((Below.refl _ _).alloc (Nat.zero_le _) _)) (by rw [hsz1];omega) (heap_alloc_new w.drew _) (by omega) (grownCap_le_maxLen w _ _ e hmax) (by
      simp only [Array.size_append,List.size_toArray,size_zeroCells,hzs,hvl,hol,<- Nat.add_mul]
      congr 1;omega) (fun b cs0 hb' hc0 j hj=>by
      rw [hβ] at hb';injection hb' with hb';subst hb'
      rw [q2] at hc0;injection hc0 with hc0;injection hc0 with hc0;subst hc0
      rw [Array.getD_eq_getD_getElem?,<- Array.getElem?_toList];simp only [Array.toList_append,List.append_assoc];rw [List.getElem?_append_left (by omega),List.getElem?_take_of_lt hj,Array.getElem?_toList,<- Array.getD_eq_getD_getElem?]) (fun j u hj=>VE _ vals zv.cells _ _ j u hol hj)
    exact ⟨_,_,g',hr,r1,r2⟩
theorem Rel.void{x:Cx}{g:Gh}{σ:St}{a:Act}{w:World}(h:Rel x g σ a w)(d e k:Nat)(hdP:isP d=false) :
  ∃ g',g'.S=g.S/\g'.up=g.up/\(∀ i,i≠d->g'.β i=g.β i/\g'.κ i=g.κ i)/\Rel x g' ((σ.sc (pOut [d]) (pOut [d])).setB d (.arr e k [])) a w/\RC g' w none (.bs d k 0) (.slice none 0 0):=by
 have hev:Ev (fun _=>True) (fun p=>p) (pOut [d]) (pOut [d]) g ⟨fun i=>if i=d then none else g.β i,fun i=>if i=d then 0 else g.κ i,g.up,g.S⟩ w w:=by
  refine ⟨⟨fun b hb=>⟨hb,rfl⟩,fun b p hb _=>⟨hb,rfl⟩,fun b p o _ _=>⟨trivial,rfl⟩⟩,fun i hi=>?_,fun i hi=>⟨hi,trivial,rfl⟩⟩
  have:=xy hi d (by simp)
  exact ⟨by show (if i=d then _ else _)=_;rw [if_neg this],by show (if i=d then _ else _)=_;rw [if_neg this]⟩
 have hR:=h.ev hev (Below.refl _ _) (fun b _ _=>rfl) (fun b _ hs=>.inl hs) h.new h.own
 refine ⟨⟨fun i=>if i=d then none else g.β i,fun i=>if i=d then 0 else g.κ i,g.up,g.S⟩,rfl,rfl,fun i hi=>⟨by show (if i=d then _ else _)=_;rw [if_neg hi],by show (if i=d then _ else _)=_;rw [if_neg hi]⟩,hR.setB (id:=d) (o:=.arr e k []) ?_ (fun q=>by rw [hdP] at q;cases q),?_⟩
 ·show Rep _ _ _ _ _ _
  simp only [if_true,Option.map_none];exact .osl0
 ·exact ⟨by simp,by simp,by simp [maxLen],fun _=>by simp⟩
end
end Go.Proofs.YtmnokalddmlogaaGreat
