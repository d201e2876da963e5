/- Parts of the proof, laid together: Base, GaB. -/
import Derived.Deep.LoopGhost
import Derived.Deep.RegionLaw
import Derived.Deep.RegionWith
import Derived.Deep.Slices
import Derived.Laws.AppendOwn
import Derived.Laws.CopyRow
import Derived.Laws.Cover3
import Derived.Laws.EntriesVeiled
import Derived.Laws.Externs
import Derived.Laws.IdiomStrings
import Derived.Laws.StructEq
import Derived.Lib.AppendStr
import Derived.Lib.AppendZeros
import Derived.Lib.AppendZerosOnto
import Derived.Lib.Hide
import Derived.Lib.Overlaps
import Derived.ProofKit
import Derived.Test.YtmnokalddmlogaaGreatProg
import Derived.WalkKit
set_option linter.unusedSimpArgs false
set_option linter.unusedVariables false
set_option maxRecDepth 100000
set_option maxHeartbeats 8000000
namespace Go.Proofs.YtmnokalddmlogaaGreat
section
open Go.RowKit
end
section
def digI (n : Int) : Bool := decide (48 <= n) && decide (n <= 57)
def lowI (n : Int) : Bool := decide (97 <= n) && decide (n <= 122)
def uppI (n : Int) : Bool := decide (65 <= n) && decide (n <= 90)
def worI (n : Int) : Bool := lowI n || uppI n || digI n || n == 95
def clsI (n : Int) : Int := if lowI n then 1 else if uppI n then 2 else if digI n || n == 95 then 3 else 0
theorem VY (n : Int) : (clsI n == 0) = !worI n := by grind [clsI, worI]
theorem cls_one (n : Int) : (clsI n == 1) = lowI n := by grind [clsI]
theorem cls_two (n : Int) : (clsI n == 2) = uppI n := by grind [clsI, lowI, uppI]
def worB (b : UInt8) : Bool := worI (b.toNat : Int)
def lowB (b : UInt8) : Bool := lowI (b.toNat : Int)
def uppB (b : UInt8) : Bool := uppI (b.toNat : Int)
def yD (l : List UInt8) : Bool := l.all worB
def zr (l : List UInt8) : Bool := yD l && decide (1 <= l.length) && decide (l.length <= 12)
def wS (p : UInt8 -> Bool) (l : List UInt8) : Bool := match l with | [] => false | b :: _ => p b
def conM (l : List UInt8) : Bool := zr l && wS uppB l
theorem ZA (l : List UInt8) (k : Nat) (h : k < l.length) : yD (l.take (k + 1)) = (yD (l.take k) && worB l[k]) := by
 unfold yD
 rw [List.take_succ_eq_append_getElem h, List.all_append, List.all_cons, List.all_nil, Bool.and_true]
theorem WJ {l : List UInt8} {k : Nat} (h : k = l.length) (ht : yD (l.take k) = true) : yD l = true := by
 subst h; simpa using ht
theorem VD {l : List UInt8} {k : Nat} (h : k < l.length) (hw : worB l[k] = false) : yD l = false := by
 unfold yD
 rw [List.all_eq_false]
 exact ⟨l[k], List.getElem_mem h, by simp [hw]⟩
theorem blen (s : ByteArray) : s.data.toList.length = s.size := rfl
theorem Zj (s : ByteArray) (k : Nat) (h : k < s.size) (ha : yD (s.data.toList.take k) = true) (hw : worI (s[k].toNat : Int) = true) : yD (s.data.toList.take (k + 1)) = true := by
 rw [ZA _ _ h, ha]; exact hw
theorem Zk (s : ByteArray) (k : Nat) (h : k < s.size) (hw : worI (s[k].toNat : Int) = false) : yD s.data.toList = false :=
 VD (l := s.data.toList) h hw
theorem Wd (s : ByteArray) (k : Nat) (h : k = s.size) (ha : yD (s.data.toList.take k) = true) : yD s.data.toList = true :=
 WJ (l := s.data.toList) h ha
def uk (f : Int) (l : List UInt8) : Bool := match l with | [] => false | b :: _ => clsI (b.toNat : Int) == f
def zy (f : Int) (l : List UInt8) : Bool := decide (1 <= l.length) && decide (l.length <= 12) && uk f l && yD l
theorem V7 (f : Int) (l : List UInt8) (h : 0 < l.length) : uk f l = (clsI (l[0].toNat : Int) == f) := by
 cases l with
 | nil => simp at h
 | cons b l => rfl
theorem Ww (f : Int) (s : ByteArray) (h : 0 < s.size) : uk f s.data.toList = (clsI (s[0].toNat : Int) == f) := V7 f s.data.toList h
theorem QZ (p : UInt8 -> Bool) (l : List UInt8) (h : 0 < l.length) : wS p l = p l[0] := by
 cases l with
 | nil => simp at h
 | cons b l => rfl
theorem Yz (p : UInt8 -> Bool) (s : ByteArray) (h : 0 < s.size) : wS p s.data.toList = p s[0] := QZ p s.data.toList h
theorem xaL {f : Int} {s : ByteArray} (h : ¬ (1 <= s.size /\ s.size <= 12)) : zy f s.data.toList = false := by
 unfold zy; rw [blen]; grind
theorem Q4 {f : Int} {s : ByteArray} (h : 0 < s.size) (hc : (clsI (s[0].toNat : Int) != f) = true) : zy f s.data.toList = false := by
 unfold zy; rw [Ww f s h]; grind
theorem xaJ {f : Int} {s : ByteArray} (h : 0 < s.size) (h2 : s.size <= 12) (hc : (clsI (s[0].toNat : Int) != f) = false) : zy f s.data.toList = yD s.data.toList := by
 unfold zy; rw [Ww f s h, blen]; grind
theorem xaK (l : List UInt8) : zy 2 l = conM l := by
 unfold zy conM zr
 have : uk 2 l = wS uppB l := by cases l <;> simp [uk, wS, cls_two, uppB]
 rw [this]; grind
theorem WF (l : List UInt8) : zy 1 l = (zr l && wS lowB l) := by
 unfold zy zr
 have : uk 1 l = wS lowB l := by cases l <;> simp [uk, wS, cls_one, lowB]
 rw [this]; grind
theorem Vl {s : ByteArray} (h : zr s.data.toList = true) : 0 < s.size := by
 unfold zr at h; rw [blen] at h; grind
theorem conM_of {s : ByteArray} (h : zr s.data.toList = true) (h0 : 0 < s.size) : uppI (s[0].toNat : Int) = conM s.data.toList := by
 unfold conM; rw [h, Yz _ _ h0]; rfl
theorem conM_not {s : ByteArray} (h : zr s.data.toList = false) : false = conM s.data.toList := by
 unfold conM; rw [h]; rfl
theorem Ur {a b : ByteArray} (h : a.data.toList = b.data.toList) : a = b := by
 cases a; cases b; simp at h; simp [h]
theorem str_beq (x y : ByteArray) : (x.toList == y.toList) = decide (x = y) := by
 rw [ByteArray.toList_eq, ByteArray.toList_eq, Bool.eq_iff_iff]
 simp only [beq_iff_eq, decide_eq_true_eq]
 exact ⟨Ur, fun h => by rw [h]⟩
theorem vH {x y : ByteArray} (h : x = y) : (x.toList == y.toList) = true := by rw [str_beq]; simp [h]
theorem uN {x y : ByteArray} (h : x ≠ y) : (x.toList == y.toList) = false := by rw [str_beq]; simp [h]
def yy (x : ByteArray) : List ByteArray -> Int
 | [] => -1
 | s :: l => if s = x then 0 else if yy x l < 0 then -1 else yy x l + 1
theorem idxOf_ge (x : ByteArray) (l : List ByteArray) : -1 <= yy x l := by
 induction l with
 | nil => simp [yy]
 | cons s l ih => simp only [yy]; grind
theorem ZN {x : ByteArray} : ∀ {l : List ByteArray} {k : Nat} (_ : k < l.length) (_ : ∀ j, j < k -> l[j]? ≠ some x) (_ : l[k]? = some x), yy x l = k
 | [], k, h, _, _ => by simp at h
 | s :: l, 0, _, _, h => by simp at h; simp [yy, h]
 | s :: l, k + 1, hk, hn, h => by
  have h0 : s ≠ x := by have := hn 0 (by omega); simpa using this
  have ih := ZN (l := l) (k := k) (by simpa using hk) (fun j hj => by have := hn (j + 1) (by omega); simpa using this) (by simpa using h)
  simp only [yy, if_neg h0, ih]
  grind
theorem XK {x : ByteArray} : ∀ {l : List ByteArray} (_ : ∀ j, j < l.length -> l[j]? ≠ some x), yy x l = -1
 | [], _ => rfl
 | s :: l, h => by
  have h0 : s ≠ x := by have := h 0 (by simp); simpa using this
  have ih := XK (l := l) (fun j hj => by have := h (j + 1) (by simpa using hj); simpa using this)
  simp only [yy, if_neg h0, ih]
  grind
theorem Vt (x : ByteArray) (l : List ByteArray) : 0 <= yy x l ↔ x ∈ l := by
 induction l with
 | nil => simp [yy]
 | cons s l ih =>
  have h1 := idxOf_ge x l
  rw [List.mem_cons, <- ih]
  by_cases h : s = x
  ·have e : yy x (s :: l) = 0 := by simp [yy, h]
   rw [e]; simp [h]
  ·have e : yy x (s :: l) = if yy x l < 0 then -1 else yy x l + 1 := by simp [yy, h]
   have hx : ¬ x = s := fun e => h e.symm
   rw [e]; simp only [hx, false_or]
   grind
def inL (x : ByteArray) (l : List ByteArray) : Bool := l.any fun s => decide (s = x)
theorem wE (x : ByteArray) (l : List ByteArray) : inL x l = true ↔ x ∈ l := by
 unfold inL
 rw [List.any_eq_true]
 exact ⟨fun ⟨s, hs, he⟩ => by have := of_decide_eq_true he; exact this ▸ hs, fun h => ⟨x, h, by simp⟩⟩
theorem UP (x : ByteArray) (l : List ByteArray) : decide (0 <= yy x l) = inL x l := by
 rw [Bool.eq_iff_iff, decide_eq_true_eq, wE, Vt]
def zu : List ByteArray := [⟨#[108, 101, 116]⟩, ⟨#[114, 101, 99]⟩, ⟨#[105, 110]⟩, ⟨#[102, 117, 110]⟩, ⟨#[105, 102]⟩, ⟨#[116, 104, 101, 110]⟩, ⟨#[101, 108, 115, 101]⟩, ⟨#[109, 97, 116, 99, 104]⟩, ⟨#[119, 105, 116, 104]⟩, ⟨#[101, 110, 100]⟩, ⟨#[116, 121, 112, 101]⟩, ⟨#[111, 102]⟩, ⟨#[114, 97, 105, 115, 101]⟩, ⟨#[116, 114, 121]⟩, ⟨#[114, 101, 102]⟩, ⟨#[116, 114, 117, 101]⟩, ⟨#[102, 97, 108, 115, 101]⟩]
def wF : List Value := zu.map Value.string
def xU (l : ByteArray) : Bool := zr l.data.toList && wS lowB l.data.toList && !inL l zu
end
section
open Go.RowKit
abbrev Hp := Nat -> Option Obj
def Sub (h : Hp) (w : World) : Prop := ∀ b o, h b = some o -> w.heap[b]? = some o
def hp (w : World) : Hp := fun b => w.heap[b]?
def HLe (h h' : Hp) : Prop := ∀ b o, h b = some o -> h' b = some o
theorem Sub.self (w : World) : Sub (hp w) w := fun _ _ h => h
theorem Sub.hle {h : Hp} {w : World} (s : Sub h w) : HLe h (hp w) := s
theorem Sub.lt {h : Hp} {w : World} (s : Sub h w) {b : Nat} {o : Obj} (e : h b = some o) : b < w.heap.size := by
 have := s b o e
 rcases Nat.lt_or_ge b w.heap.size with hl | hl
 ·exact hl
 ·rw [Array.getElem?_eq_none hl] at this; cases this
theorem Sub.below {h : Hp} {w w' : World} (s : Sub h w) (k : Below w.heap.size w w') : Sub h w' := fun b o e => by
 rw [k.block b (s.lt e)]; exact s b o e
def CellsAt (h : Hp) (b off : Nat) (vs : List Value) : Prop :=
 ∃ c e fr, h b = some (.cells c e fr) /\ ∀ i, i < vs.length -> c[off + i]? = vs[i]?
theorem CellsAt.le {h h' : Hp} {b off : Nat} {vs : List Value} (x : CellsAt h b off vs) (l : HLe h h') : CellsAt h' b off vs :=
 let ⟨c, e, fr, hb, hc⟩ := x; ⟨c, e, fr, l _ _ hb, hc⟩
theorem CellsAt.cell {h : Hp} {w : World} {b off : Nat} {vs : List Value} (x : CellsAt h b off vs) (s : Sub h w) {i : Nat} (hi : i < vs.length) :
  w.cell? ⟨b, off + i, none⟩ = some vs[i] := by
 obtain ⟨c, e, fr, hb, hc⟩ := x
 have := s _ _ hb
 simp only [World.cell?, this]
 rw [if_neg (by simp), hc i hi, List.getElem?_eq_getElem hi]
def Sl (h : Hp) (v : Value) (vs : List Value) : Prop :=
 ∃ a c, v = .slice a vs.length c /\ vs.length <= c /\ c <= maxLen /\ (vs = [] \/ ∃ b off, a = some ⟨b, off, none⟩ /\ CellsAt h b off vs)
theorem Zz (b off j : Nat) : (⟨b, off, none⟩ : Addr).add j = ⟨b, off + j, none⟩ := by
 unfold Addr.add
 split <;> simp_all
def ext (h : Hp) (B : Nat) (w : World) : Hp := fun b => if b < B then h b else w.heap[b]?
theorem vX (w : World) (x : Value) (t : TypeId) : (w.alloc (.cells #[x] t)).cell? ⟨w.heap.size, 0, none⟩ = some x := by
 have : (w.alloc (.cells #[x] t)).heap[w.heap.size]? = some (.cells #[x] t) := by show (w.heap.push _)[w.heap.size]? = _; simp
 simp only [World.cell?, this]
 rfl
theorem bcell {W w1 : World} (hb : Below W.heap.size W w1) : (∀ b o, b < W.heap.size -> w1.cell? ⟨b, o, none⟩ = W.cell? ⟨b, o, none⟩) /\ (∀ b o, b < W.heap.size -> w1.frozen? ⟨b, o, none⟩ = W.frozen? ⟨b, o, none⟩) :=
 ⟨fun b o h => hb.cell (p := ⟨b, o, none⟩) h, fun b o h => hb.frozen (p := ⟨b, o, none⟩) h⟩
theorem zA {B : Nat} {a b c : World} (h : Below b.heap.size b c) (k : Below B a b) (l : B <= b.heap.size) : Below B a c := k.trans (h.mono l)
theorem zV {w wx : World} {a : Addr} {v : Value} (hb : Below w.heap.size w wx) (h : w.cell? a = some v) : wx.cell? a = some v :=
 (hb.cell (World.block_lt_of_cell? _ _ h)).trans h
end
section
end
section
open Go.RowKit Go.ChangeShapes Go.WideShapes
section
variable {H : Type} {enc : TypeId × Value -> H} {P : Program} {W : World} {held : Bool}
abbrev Rd (enc : TypeId × Value -> H) (P : Program) (W : World) (fuel : Nat) (t : TypeId) (cs : List Value) (x : DataW H × List MemPlace) : Prop := DataW.trod enc P W 0 (fun _ => true) true fuel t cs = some x
theorem Qf {α β : Type} (f : α -> Option β) : ∀ (l : List α) (ys : List β), l.mapM f = some ys -> ∀ a ∈ l, ∃ y, f a = some y
 | [], _, _, a, ha => by cases ha
 | b :: l, ys, h, a, ha => by
  rw [List.mapM_cons] at h
  cases hb : f b with
  | none => rw [hb] at h; simp at h
  | some y =>
   rw [hb] at h
   cases hl : l.mapM f with
   | none => rw [hl] at h; simp at h
   | some zs =>
    rcases List.mem_cons.1 ha with rfl | ha
    ·exact ⟨y, hb⟩
    ·exact Qf f l zs hl a ha
theorem zh {fuel : Nat} {t : TypeId} {fs : Array Field} {cs : List Value} {x : DataW H × List MemPlace} (hu : P.underlying t = some (.struct fs)) (h : Rd enc P W fuel t cs x) :
  cs.length = P.cellsOf t /\ ∃ m, ∀ f ∈ fs.toList, ∃ y, Rd enc P W m f.type ((cs.drop f.offset).take (P.cellsOf f.type)) y := by
 cases fuel with
 | zero => simp [Rd, DataW.trod] at h
 | succ n =>
  unfold Rd DataW.trod at h
  rw [hu] at h
  simp only at h
  split at h
  ·rename_i hl
   refine ⟨hl, n, fun f hf => ?_⟩
   cases hm : fs.toList.mapM fun f => DataW.trod enc P W 0 (fun _ => true) true n f.type ((cs.drop f.offset).take (P.cellsOf f.type)) with
   | none => rw [hm] at h; simp at h
   | some ys => exact Qf _ _ _ hm f hf
  ·cases h
theorem Wq {b off : Nat} {cs : List Value} (hpos : 0 < cs.length) (h : ∀ i, i < cs.length -> W.cell? ⟨b, off + i, none⟩ = cs[i]?) : CellsAt (hp W) b off cs := by
 have h0 := h 0 hpos
 rw [List.getElem?_eq_getElem hpos] at h0
 unfold World.cell? at h0
 split at h0
 ·rename_i c e fr he
  refine ⟨c, e, fr, he, fun i hi => ?_⟩
  have := h i hi
  simp only [World.cell?, he] at this
  rw [if_neg (by simp)] at this
  exact this
 ·cases h0
def SlOf {α : Type} (k : Nat) (R : Hp -> List Value -> α -> Prop) (h : Hp) (v : Value) (xs : List α) : Prop :=
 ∃ a c, v = .slice a xs.length c /\ xs.length <= c /\ c <= maxLen /\
  (xs = [] \/ ∃ b off, a = some ⟨b, off, none⟩ /\ ∀ i (hi : i < xs.length), ∃ r, r.length = k /\ CellsAt h b (off + i * k) r /\ R h r xs[i])
theorem SlOf.le {α : Type} {k : Nat} {R : Hp -> List Value -> α -> Prop} {h h' : Hp} {v : Value} {xs : List α} (x : SlOf k R h v xs) (l : HLe h h') (hR : ∀ r x, x ∈ xs -> R h r x -> R h' r x) : SlOf k R h' v xs :=
 let ⟨a, c, e, h1, h2, r⟩ := x
 ⟨a, c, e, h1, h2, r.imp id fun ⟨b, off, ea, hc⟩ => ⟨b, off, ea, fun i hi => let ⟨r, l1, l2, l3⟩ := hc i hi; ⟨r, l1, l2.le l, hR _ _ (List.getElem_mem hi) l3⟩⟩⟩
theorem SlOf.nil {α : Type} (k : Nat) (R : Hp -> List Value -> α -> Prop) (h : Hp) : SlOf k R h (.slice none 0 0) [] := ⟨none, 0, rfl, Nat.le_refl _, by decide, .inl rfl⟩
theorem xaw {α : Type} {n : Nat} {p : Nat -> α -> Prop} (h : ∀ i, i < n -> ∃ x, p i x) : ∃ xs : List α, xs.length = n /\ ∀ i (hi : i < xs.length), p i xs[i] := by
 induction n with
 | zero => exact ⟨[], rfl, fun i hi => by simp at hi⟩
 | succ n ih =>
  obtain ⟨xs, hl, hx⟩ := ih (fun i hi => h i (by omega))
  obtain ⟨x, hxn⟩ := h n (by omega)
  refine ⟨xs ++ [x], by simp [hl], fun i hi => ?_⟩
  by_cases e : i < xs.length
  ·rw [List.getElem_append_left e]; exact hx i e
  ·have : i = n := by simp at hi; omega
   subst this
   rw [List.getElem_append_right (by omega)]
   simpa [hl] using hxn
theorem rd_slice {α : Type} {fuel : Nat} {t e : TypeId} {cs : List Value} {x : DataW H × List MemPlace} (k : Nat) (R : Hp -> List Value -> α -> Prop) (hu : P.underlying t = some (.slice e)) (hk : P.cellsOf e = k) (hk0 : 0 < k)
  (hR : ∀ n cs' y, Rd enc P W n e cs' y -> ∃ z, R (hp W) cs' z) (h : Rd enc P W fuel t cs x) : ∃ v xs, cs = [v] /\ SlOf k R (hp W) v (xs : List α) := by
 rcases Deep.open_slice hu h with ⟨rfl, _⟩ | ⟨a, len, cap, m, n, D, Pl, rfl, -, hl, hm, hmm, -, hel⟩
 ·exact ⟨_, [], rfl, SlOf.nil _ _ _⟩
 ·have hmm' : m = cap := by simpa using hmm
  subst hmm'
  rw [hk] at hel
  by_cases h0 : len = 0
  ·subst h0
   exact ⟨_, [], rfl, some a, m, rfl, Nat.zero_le _, hm, .inl rfl⟩
  ·obtain ⟨b, off, spot⟩ := a
   have hspot : spot = none := by
    obtain ⟨cs', h1, _⟩ := hel 0 (by omega)
    obtain ⟨_, h2, h3⟩ := World.cells?_some h1
    have h4 := h3 0 hk0
    rw [List.getElem?_eq_getElem (by omega)] at h4
    have := World.cell?_spot h4
    simpa [Addr.add] using this
   subst hspot
   obtain ⟨xs, hxl, hxs⟩ := xaw (n := len) (p := fun i x => ∃ r, r.length = k /\ CellsAt (hp W) b (off + i * k) r /\ R (hp W) r x) (fun i hi => by
    obtain ⟨cs', h1, h2⟩ := hel i (by omega)
    obtain ⟨_, h3, h4⟩ := World.cells?_some h1
    obtain ⟨z, hz⟩ := hR _ _ _ h2
    refine ⟨z, cs', h3, Wq (by omega) (fun j hj => ?_), hz⟩
    have := h4 j (by omega)
    rw [<- this]
    rw [Zz, Zz])
   exact ⟨_, xs, rfl, _, m, by rw [hxl], by omega, hm, .inr ⟨b, off, rfl, fun i hi => hxs i hi⟩⟩
end
def I64 (n : Int) : Prop := -9223372036854775808 <= n /\ n <= 9223372036854775807
theorem i64_of {z : Int} (hz : (Lit.int .i64 z).wf = true) : I64 z := by
 simp only [Lit.wf, IntKind.min, IntKind.max, IntKind.signed, IntKind.bits, Bool.and_eq_true, decide_eq_true_eq, if_true] at hz
 unfold I64
 omega
end
section
open Go.RowKit
theorem yg {a b : Bool} (h : a = b) : Ending.returned (.bool a) = .returned (.bool b) := by rw [h]
theorem ret_n {k : IntKind} {a b : Int} (h : a = b) : Ending.returned (.int k a) = .returned (.int k b) := by rw [h]
theorem V9 (w : World) (n : Int) : Calls Tryz.prog 245 #[.int .u8 n] w fun e w' => e = .returned (.bool (digI n)) /\ w = w' := by
 go_enter Tryz.func245, Tryz.ntmps245
 go_wp2
 all_goals
  go_ret
  exact ⟨yg (by grind [digI]), rfl⟩
theorem vy (w : World) (n : Int) : Calls Tryz.prog 187 #[.int .u8 n] w fun e w' => e = .returned (.bool (lowI n)) /\ w = w' := by
 go_enter Tryz.func187, Tryz.ntmps187
 go_wp2
 all_goals
  go_ret
  exact ⟨yg (by grind [lowI]), rfl⟩
theorem YA (w : World) (n : Int) : Calls Tryz.prog 228 #[.int .u8 n] w fun e w' => e = .returned (.bool (uppI n)) /\ w = w' := by
 go_enter Tryz.func228, Tryz.ntmps228
 go_wp2
 all_goals
  go_ret
  exact ⟨yg (by grind [uppI]), rfl⟩
theorem wo (w : World) (n : Int) : Calls Tryz.prog 201 #[.int .u8 n] w fun e w' => e = .returned (.int .i64 (clsI n)) /\ w = w' := by
 go_enter Tryz.func201, Tryz.ntmps201
 go_wp2
 all_goals
  go_ret
  exact ⟨ret_n (by grind [clsI, lowI, uppI, digI]), rfl⟩
theorem Zw (w : World) (n : Int) : Calls Tryz.prog 227 #[.int .u8 n] w fun e w' => e = .returned (.bool (worI n)) /\ w = w' := by
 go_enter Tryz.func227, Tryz.ntmps227
 go_wp2_with (first | (go_at_call 187; refine (vy _ _).mono ?_; rintro e w' ⟨rfl, rfl⟩) | (go_at_call 228; refine (YA _ _).mono ?_; rintro e w' ⟨rfl, rfl⟩) | (go_at_call 245; refine (V9 _ _).mono ?_; rintro e w' ⟨rfl, rfl⟩))
 all_goals
  go_ret
  exact ⟨yg (by grind [worI]), rfl⟩
theorem Q1 (w : World) (n a b : Int) : Calls Tryz.prog 94 #[.int .i64 n, .int .i64 a, .int .i64 b] w fun e w' => e = .returned (.bool (decide (a <= n) && decide (n <= b))) /\ w = w' := by
 go_enter Tryz.func94, Tryz.ntmps94
 go_wp2
 all_goals
  go_ret
  exact ⟨yg (by grind), rfl⟩
theorem wi (w : World) (s : ByteArray) (hs : s.size <= maxLen) : Calls Tryz.prog 186 #[.string s] w fun e w' => e = .returned (.bool (zr s.data.toList)) /\ w = w' := by
 unfold maxLen at hs
 go_enter Tryz.func186, Tryz.ntmps186
 go_wp2
 go_loop [6] (fun i => ∃ k : Nat, k <= s.size /\ i = .int .i64 k /\ yD (s.data.toList.take k) = true) (fun i => s.size - (intOf i).toNat)
 case atStart => exact ⟨0, Nat.zero_le _, rfl, rfl⟩
 case round =>
  obtain ⟨k, hk, rfl, hall⟩ := hrel
  have HA := Lib.hid hall
  clear hall
  by_cases hlt : k < s.size
  ·cases hw : worI (s[k].toNat : Int)
   ·have HF := Lib.hid (Zk s k hlt hw)
    go_wp2_with (first | (go_at_call 227; refine (Zw _ _).mono ?_; rintro e w' ⟨rfl, rfl⟩))
    go_ret
    exact ⟨yg (by rw [zr, HF.out]; rfl), rfl⟩
   ·have HF := Lib.hid (Zj s k hlt HA.out hw)
    go_wp2_with (first | (go_at_call 227; refine (Zw _ _).mono ?_; rintro e w' ⟨rfl, rfl⟩))
    go_round
    case rel => exact ⟨k + 1, by omega, by go_num, HF.out⟩
    case measure => simp [intOf]; omega
  ·have HF := Lib.hid (Wd s k (by omega) HA.out)
   go_wp2_with (first | (go_at_call 94; refine (Q1 _ _ _ _).mono ?_; rintro e w' ⟨rfl, rfl⟩))
   go_ret
   exact ⟨yg (by rw [zr, HF.out, blen]; grind), rfl⟩
theorem vG (w : World) (s : ByteArray) (f : Int) (hs : s.size <= maxLen) : Calls Tryz.prog 173 #[.string s, .int .i64 f] w fun e w' => e = .returned (.bool (zy f s.data.toList)) /\ w = w' := by
 unfold maxLen at hs
 by_cases hl : 1 <= s.size /\ s.size <= 12
 ·obtain ⟨hl1, hl2⟩ := hl
  have h0 : 0 < s.size := hl1
  cases hc : (clsI (s[0].toNat : Int) != f)
  ·have HS := Lib.hid (xaJ h0 hl2 hc)
   go_enter Tryz.func173, Tryz.ntmps173
   go_wp2_with (first | (go_at_call 201; refine (wo _ _).mono ?_; rintro e w' ⟨rfl, rfl⟩))
   go_loop [5] (fun i => ∃ k : Nat, k <= s.size /\ i = .int .i64 k /\ yD (s.data.toList.take k) = true) (fun i => s.size - (intOf i).toNat)
   case atStart => exact ⟨0, Nat.zero_le _, rfl, rfl⟩
   case round =>
    obtain ⟨k, hk, rfl, hall⟩ := hrel
    have HA := Lib.hid hall
    clear hall
    by_cases hlt : k < s.size
    ·cases hw : worI (s[k].toNat : Int)
     ·have HF := Lib.hid (Zk s k hlt hw)
      have hz : (clsI (s[k].toNat : Int) == 0) = true := by rw [VY, hw]; rfl
      go_wp2_with (first | (go_at_call 201; refine (wo _ _).mono ?_; rintro e w' ⟨rfl, rfl⟩))
      go_ret
      exact ⟨yg (by rw [HS.out, HF.out]), rfl⟩
     ·have HF := Lib.hid (Zj s k hlt HA.out hw)
      have hz : (clsI (s[k].toNat : Int) == 0) = false := by rw [VY, hw]; rfl
      go_wp2_with (first | (go_at_call 201; refine (wo _ _).mono ?_; rintro e w' ⟨rfl, rfl⟩))
      go_round
      case rel => exact ⟨k + 1, by omega, by go_num, HF.out⟩
      case measure => simp [intOf]; omega
    ·have HF := Lib.hid (Wd s k (by omega) HA.out)
     go_wp2
     go_ret
     exact ⟨yg (by rw [HS.out, HF.out]), rfl⟩
  ·have HS := Lib.hid (Q4 h0 hc)
   go_enter Tryz.func173, Tryz.ntmps173
   go_wp2_with (first | (go_at_call 201; refine (wo _ _).mono ?_; rintro e w' ⟨rfl, rfl⟩))
   go_ret
   exact ⟨yg HS.out.symm, rfl⟩
 ·have HS := Lib.hid (xaL (f := f) hl)
  by_cases hl1 : s.size < 1
  all_goals
   go_enter Tryz.func173, Tryz.ntmps173
   go_wp2
   go_ret
   exact ⟨yg HS.out.symm, rfl⟩
theorem xaM (w : World) (s : ByteArray) (hs : s.size <= maxLen) : Calls Tryz.prog 175 #[.string s] w fun e w' => e = .returned (.bool (conM s.data.toList)) /\ w = w' := by
 go_enter Tryz.func175, Tryz.ntmps175
 go_wp2_with (first | (go_at_call 173; refine (vG _ _ _ hs).mono ?_; rintro e w' ⟨rfl, rfl⟩))
 go_ret
 exact ⟨yg (xaK _), rfl⟩
theorem xau (w : World) (s : ByteArray) (hs : s.size <= maxLen) : Calls Tryz.prog 189 #[.string s] w fun e w' => e = .returned (.bool (conM s.data.toList)) /\ w = w' := by
 cases hW : zr s.data.toList
 ·go_enter Tryz.func189, Tryz.ntmps189
  go_wp2_with (first | (go_at_call 186; refine (wi _ _ hs).mono ?_; rintro e w' ⟨rfl, rfl⟩))
  go_ret
  exact ⟨yg (conM_not hW), rfl⟩
 ·have h0 := Vl hW
  go_enter Tryz.func189, Tryz.ntmps189
  go_wp2_with (first | (go_at_call 186; refine (wi _ _ hs).mono ?_; rintro e w' ⟨rfl, rfl⟩) | (go_at_call 228; refine (YA _ _).mono ?_; rintro e w' ⟨rfl, rfl⟩))
  go_ret
  exact ⟨yg (conM_of hW h0), rfl⟩
theorem uM (w : World) (h : Hp) (hs : Sub h w) (v : Value) (ss : List ByteArray) (x : ByteArray) (hv : Sl h v (ss.map Value.string)) : Calls Tryz.prog 142 #[v, .string x] w fun e w' => e = .returned (.int .i64 (yy x ss)) /\ w = w' := by
 obtain ⟨a, c, rfl, h1, h2, hr⟩ := hv
 unfold maxLen at h2
 rw [List.length_map] at *
 go_enter Tryz.func142, Tryz.ntmps142
 go_wp2
 go_loop [8] (fun i => ∃ k : Nat, k <= ss.length /\ i = .int .i64 k /\ (∀ j, j < k -> ss[j]? ≠ some x)) (fun i => ss.length - (intOf i).toNat)
 case atStart => exact ⟨0, Nat.zero_le _, rfl, by omega⟩
 case round =>
  obtain ⟨k, hk, rfl, hall⟩ := hrel
  have HA := Lib.hid hall
  clear hall
  by_cases hlt : k < ss.length
  ·rcases hr with hr | ⟨b, off, rfl, hc⟩
   ·have : ss = [] := by simpa using hr
    subst this
    simp at hlt
   ·have hcell : w.cell? ⟨b, off + k, none⟩ = some (.string ss[k]) := by
     have := hc.cell hs (i := k) (by simpa using hlt)
     simpa using this
    by_cases hx : x = ss[k]
    ·have hb := vH hx
     have HF := Lib.hid (ZN hlt HA.out (by rw [List.getElem?_eq_getElem hlt, <- hx]))
     clear hx
     go_wp2
     go_ret
     exact ⟨ret_n HF.out.symm, rfl⟩
    ·have hb := uN hx
     have HF := Lib.hid hx
     clear hx
     go_wp2
     go_round
     case rel =>
      refine ⟨k + 1, by omega, by go_num, fun j hj => ?_⟩
      by_cases e : j = k
      ·subst e; rw [List.getElem?_eq_getElem hlt]; exact fun e => HF.out (Option.some.inj e).symm
      ·exact HA.out j (by omega)
     case measure => simp [intOf]; omega
  ·have HF := Lib.hid (XK (x := x) (l := ss) (fun j hj => HA.out j (by omega)))
   go_wp2
   go_ret
   exact ⟨ret_n HF.out.symm, rfl⟩
theorem uc (w : World) (h : Hp) (hs : Sub h w) (v : Value) (ss : List ByteArray) (x : ByteArray) (hv : Sl h v (ss.map Value.string)) : Calls Tryz.prog 89 #[v, .string x] w fun e w' => e = .returned (.bool (inL x ss)) /\ w = w' := by
 go_enter Tryz.func89, Tryz.ntmps89
 go_wp2_with (first | (go_at_call 142; refine (uM _ h hs v ss x hv).mono ?_; rintro e w' ⟨rfl, rfl⟩))
 go_ret
 exact ⟨yg (UP _ _), rfl⟩
theorem Vu (w : World) : Calls Tryz.prog 188 #[] w fun e w' => e = .returned (.slice (some ⟨w.heap.size, 0, none⟩) 17 17) /\ w.alloc (.cells wF.toArray 9) = w' := by
 go_enter Tryz.func188, Tryz.ntmps188
 go_wp2
 go_ret
 exact ⟨rfl, rfl⟩
theorem Sl_new (w : World) (vs : List Value) (e : TypeId) (h1 : vs.length <= maxLen) : Sl (hp (w.alloc (.cells vs.toArray e))) (.slice (some ⟨w.heap.size, 0, none⟩) vs.length vs.length) vs := by
 refine ⟨_, _, rfl, Nat.le_refl _, h1, .inr ⟨_, _, rfl, vs.toArray, e, (0, 0), ?_, fun i hi => ?_⟩⟩
 ·show (w.heap.push _)[w.heap.size]? = _
  simp
 ·simp
theorem Q0 (w : World) (s : ByteArray) (hs : s.size <= maxLen) : Calls Tryz.prog 139 #[.string s] w fun e w' => e = .returned (.bool (xU s)) /\ Below w.heap.size w w' := by
 cases hW : zr s.data.toList
 ·go_enter Tryz.func139, Tryz.ntmps139
  go_wp2_with (first | (go_at_call 186; refine (wi _ _ hs).mono ?_; rintro e w' ⟨rfl, rfl⟩))
  go_ret
  exact ⟨yg (by rw [xU, hW]; rfl), Below.refl _ _⟩
 ·have h0 := Vl hW
  cases hL : lowI (s[0].toNat : Int)
  ·go_enter Tryz.func139, Tryz.ntmps139
   go_wp2_with (first | (go_at_call 186; refine (wi _ _ hs).mono ?_; rintro e w' ⟨rfl, rfl⟩) | (go_at_call 187; refine (vy _ _).mono ?_; rintro e w' ⟨rfl, rfl⟩))
   go_ret
   exact ⟨yg (by rw [xU, hW, Yz _ _ h0, lowB, hL]; rfl), Below.refl _ _⟩
  ·go_enter Tryz.func139, Tryz.ntmps139
   go_wp2_with (first | (go_at_call 186; refine (wi _ _ hs).mono ?_; rintro e w' ⟨rfl, rfl⟩) | (go_at_call 187; refine (vy _ _).mono ?_; rintro e w' ⟨rfl, rfl⟩) | (go_at_call 188; refine (Vu _).mono ?_; rintro e w' ⟨rfl, rfl⟩) | (go_at_call 89; refine (uc _ _ (Sub.self _) _ zu s (Sl_new _ wF _ (by unfold maxLen; decide))).mono ?_; rintro e w' ⟨rfl, rfl⟩))
   go_ret
   exact ⟨yg (by rw [xU, hW, Yz _ _ h0, lowB, hL]; rfl), (Below.refl _ _).alloc (Nat.le_refl _) _⟩
theorem inL_at {x : ByteArray} {l : List ByteArray} {k : Nat} (h : k < l.length) (e : x = l[k]) : inL x l = true := (wE _ _).2 (e ▸ List.getElem_mem h)
theorem inL_none {x : ByteArray} {l : List ByteArray} (h : ∀ j, j < l.length -> l[j]? ≠ some x) : inL x l = false := by
 cases e : inL x l with
 | false => rfl
 | true =>
  obtain ⟨j, hj, ej⟩ := List.getElem_of_mem ((wE _ _).1 e)
  exact absurd (by rw [List.getElem?_eq_getElem hj, ej]) (h j hj)
theorem QC (w : World) (s : ByteArray) : Calls Tryz.prog 174 #[.string s] w fun e w' => e = .returned (.bool (inL s zu)) /\ Below w.heap.size w w' := by
 have hS := Sl_new w wF 9 (by unfold maxLen; decide)
 obtain ⟨a, c, e1, -, -, hr⟩ := hS
 injection e1 with e1 _ e2
 subst e1
 have HC : ∀ k (h : k < zu.length) (wr : World), Sub (hp (w.alloc (.cells wF.toArray 9))) wr -> wr.cell? ⟨w.heap.size, k, none⟩ = some (.string zu[k]) := by
  intro k h wr hw
  rcases hr with hr | ⟨b, off, e, hc⟩
  ·simp [wF, zu] at hr
  ·injection e with e; injection e with eb eo _; subst eb; subst eo
   have := hc.cell hw (i := k) (by simpa [wF] using h)
   simpa [wF] using this
 clear hr
 have HC := Lib.hid HC
 go_enter Tryz.func174, Tryz.ntmps174
 go_wp2
 go_loopw [7] (fun i wr => ∃ k : Nat, k <= 17 /\ i = .int .i64 k /\ (∀ j, j < k -> zu[j]? ≠ some s) /\ Sub (hp (w.alloc (.cells wF.toArray 9))) wr /\ Below w.heap.size w wr) (fun i _ => 17 - (intOf i).toNat)
 case atStart => exact ⟨0, Nat.zero_le _, rfl, by omega, Sub.self _, (Below.refl _ _).alloc (Nat.le_refl _) _⟩
 case round =>
  obtain ⟨k, hk, rfl, hall, hsub, hbel⟩ := hrel
  have HA := Lib.hid hall
  clear hall
  by_cases hlt : k < 17
  ·have hcell := HC.out k hlt _ hsub
   generalize hq : zu[k]'hlt = q at hcell
   by_cases hx : s = q
   ·have hb := vH hx
    have HF := Lib.hid (inL_at (x := s) (l := zu) hlt (by rw [hx, <- hq]))
    clear hx hq
    go_wp2
    go_ret
    exact ⟨yg HF.out.symm, hbel⟩
   ·have hb := uN hx
    have HF := Lib.hid hx
    have HQ := Lib.hid hq
    clear hx hq
    go_wp2
    go_roundw
    case rel =>
     refine ⟨k + 1, by omega, by go_num, fun j hj => ?_, hsub, hbel⟩
     by_cases e : j = k
     ·subst e; rw [List.getElem?_eq_getElem hlt, HQ.out]; exact fun e => HF.out (Option.some.inj e).symm
     ·exact HA.out j (by omega)
    case measure => simp [intOf]; omega
  ·have HF := Lib.hid (inL_none (x := s) (l := zu) (fun j hj => HA.out j (by have : zu.length = 17 := rfl; omega)))
   go_wp2
   go_ret
   exact ⟨yg HF.out.symm, hbel⟩
theorem Q5 (w : World) (s : ByteArray) (hs : s.size <= maxLen) : Calls Tryz.prog 125 #[.string s] w fun e w' => e = .returned (.bool (xU s)) /\ Below w.heap.size w w' := by
 cases hW : zy 1 s.data.toList
 ·go_enter Tryz.func125, Tryz.ntmps125
  go_wp2_with (first | (go_at_call 173; refine (vG _ _ _ hs).mono ?_; rintro e w' ⟨rfl, rfl⟩))
  go_ret
  exact ⟨yg (by rw [xU, <- WF, hW]; rfl), Below.refl _ _⟩
 ·go_enter Tryz.func125, Tryz.ntmps125
  go_wp2_with (first | (go_at_call 173; refine (vG _ _ _ hs).mono ?_; rintro e w' ⟨rfl, rfl⟩) | (go_at_call 174; refine (QC _ _).mono ?_; rintro e w1 ⟨rfl, hb⟩))
  go_ret
  exact ⟨yg (by rw [xU, <- WF, hW]; rfl), hb⟩
inductive D where
 | s (v : Value)
 | nil
 | np
 | sl (k : Nat) (rows : List (List D))
 | pt (row : List D)
 | fn (f : FuncId) (caps : List D)
 | osl (e k : Nat) (rows : List (List D))
 | opa (k : Nat) (row : List D)
 | bx (id off : Nat)
 | el (id k i off : Nat)
 | bs (id k n : Nat)
 | ag (xs : List D)
 | un
 | tup (xs : List D)
 | mb (c : Bool) (x : D)
instance : Inhabited D := ⟨.nil⟩
abbrev D.opt (row : List D) : D := .opa 0 row
inductive Pos where
 | root (id : Nat)
 | cell (b o : Nat)
 | ans (m l : Nat)
 | par (j l : Nat)
inductive Rep (S : Nat -> Prop) (up : Nat -> Option Pos) (w : World) : Option Pos -> D -> Value -> Prop where
 | s {p : Option Pos} {v : Value} : v.oneCell' = true -> Rep S up w p (.s v) v
 | nil {p : Option Pos} : Rep S up w p .nil (.slice none 0 0)
 | np {p : Option Pos} : Rep S up w p .np (.pointer none)
 | sl0 {p : Option Pos} {k : Nat} {a : Option Addr} {c : Nat} : c <= maxLen -> Rep S up w p (.sl k []) (.slice a 0 c)
 | sl {p : Option Pos} {k : Nat} {rows : List (List D)} {b off c : Nat} (us : Nat -> Nat -> Value) : rows.length <= c -> c <= maxLen -> (∀ (i : Nat) (row : List D), rows[i]? = some row -> row.length = k) ->
   (∀ (i j : Nat) (row : List D) (d : D), rows[i]? = some row -> row[j]? = some d -> S b /\ w.cell? ⟨b, off + i * k + j, none⟩ = some (us i j)) ->
   (∀ (i j : Nat) (row : List D) (d : D), rows[i]? = some row -> row[j]? = some d -> Rep S up w none d (us i j)) -> Rep S up w p (.sl k rows) (.slice (some ⟨b, off, none⟩) rows.length c)
 | pt {p : Option Pos} {row : List D} {b off : Nat} (us : Nat -> Value) : (∀ (j : Nat) (d : D), row[j]? = some d -> S b /\ w.cell? ⟨b, off + j, none⟩ = some (us j)) ->
   (∀ (j : Nat) (d : D), row[j]? = some d -> Rep S up w none d (us j)) -> Rep S up w p (.pt row) (.pointer (some ⟨b, off, none⟩))
 | fn {p : Option Pos} {f : FuncId} {caps : List D} (us : Nat -> Value) : (∀ (j : Nat) (d : D), caps[j]? = some d -> Rep S up w none d (us j)) -> Rep S up w p (.fn f caps) (.func (.func f) #[] ((List.range caps.length).map us).toArray)
 | osl0 {p : Option Pos} {e k : Nat} : Rep S up w p (.osl e k []) (.slice none 0 0)
 | osl {p : Pos} {e k : Nat} {rows : List (List D)} {b c : Nat} (cs : Array Value) : up b = some p -> w.heap[b]? = some (.cells cs e (0, 0)) -> rows.length <= c -> c <= maxLen -> cs.size = c * k ->
   (∀ (i : Nat) (row : List D), rows[i]? = some row -> row.length = k) ->
   (∀ (i j : Nat) (row : List D) (d : D), rows[i]? = some row -> row[j]? = some d -> Rep S up w (some (.cell b (i * k + j))) d (cs.getD (i * k + j) undef)) -> Rep S up w (some p) (.osl e k rows) (.slice (some ⟨b, 0, none⟩) rows.length c)
 | opa {p : Pos} {k : Nat} {row : List D} {b ty : Nat} (cs : Array Value) : up b = some p -> w.heap[b]? = some (.cells cs ty (0, 0)) -> cs.size = row.length ->
   (∀ (j : Nat) (d : D), row[j]? = some d -> Rep S up w (some (.cell b j)) d (cs.getD j undef)) -> Rep S up w (some p) (.opa k row) (.pointer (some ⟨b, k, none⟩))
theorem Rep.opt {S : Nat -> Prop} {up : Nat -> Option Pos} {w : World} {p : Pos} {row : List D} {b ty : Nat} (cs : Array Value) (h1 : up b = some p) (h2 : w.heap[b]? = some (.cells cs ty (0, 0))) (h3 : cs.size = row.length) (h4 : ∀ (j : Nat) (d : D), row[j]? = some d -> Rep S up w (some (.cell b j)) d (cs.getD j undef)) : Rep S up w (some p) (.opt row) (.pointer (some ⟨b, 0, none⟩)) := .opa cs h1 h2 h3 h4
theorem Rep.one {S : Nat -> Prop} {up : Nat -> Option Pos} {w : World} {p : Option Pos} {d : D} {v : Value} (h : Rep S up w p d v) : v.oneCell' = true := by
 cases h <;> first | assumption | rfl
structure Gh where
 β : Nat -> Option Nat
 κ : Nat -> Nat
 up : Nat -> Option Pos
 S : Nat -> Prop
structure Mv (Ok : Pos -> Prop) (π : Pos -> Pos) (g g' : Gh) (w w' : World) : Prop where
 sl : ∀ b, g.S b -> g'.S b /\ w'.heap[b]? = w.heap[b]?
 ow : ∀ b p, g.up b = some p -> Ok p -> g'.up b = some (π p) /\ w'.heap[b]? = w.heap[b]?
 st : ∀ b p o, g.up b = some p -> Ok p -> Ok (.cell b o) /\ π (.cell b o) = .cell b o
theorem Ys {w w' : World} {b : Nat} (h : w'.heap[b]? = w.heap[b]?) (o : Nat) : w'.cell? ⟨b, o, none⟩ = w.cell? ⟨b, o, none⟩ := by simp only [World.cell?, h]
theorem Rep.move {Ok : Pos -> Prop} {π : Pos -> Pos} {g g' : Gh} {w w' : World} (m : Mv Ok π g g' w w') {p : Option Pos} {d : D} {v : Value} (h : Rep g.S g.up w p d v) (hp : ∀ q, p = some q -> Ok q) : Rep g'.S g'.up w' (p.map π) d v := by
 induction h with
 | s h => exact .s h
 | nil => exact .nil
 | np => exact .np
 | sl0 h => exact .sl0 h
 | sl us h1 h2 h3 h4 _ ih => exact .sl us h1 h2 h3 (fun i j row d r1 r2 => ⟨(m.sl _ (h4 i j row d r1 r2).1).1, (Ys (m.sl _ (h4 i j row d r1 r2).1).2 _).trans (h4 i j row d r1 r2).2⟩) (fun i j row d r1 r2 => ih i j row d r1 r2 (fun q hq => by cases hq))
 | pt us h1 _ ih => exact .pt us (fun j d r => ⟨(m.sl _ (h1 j d r).1).1, (Ys (m.sl _ (h1 j d r).1).2 _).trans (h1 j d r).2⟩) (fun j d r => ih j d r (fun q hq => by cases hq))
 | fn us _ ih => exact .fn us (fun j d r => ih j d r (fun q hq => by cases hq))
 | osl0 => exact .osl0
 | @osl p e k rows b c cs h1 h2 h3 h4 h5 h6 _ ih =>
  have ho := hp p rfl
  obtain ⟨m1, m2⟩ := m.ow b p h1 ho
  refine .osl cs m1 (m2.trans h2) h3 h4 h5 h6 fun i j row d r1 r2 => ?_
  obtain ⟨m3, m4⟩ := m.st b p (i * k + j) h1 ho
  have := ih i j row d r1 r2 (fun q hq => by injection hq with hq; subst hq; exact m3)
  rwa [Option.map_some, m4] at this
 | @opa p k row b ty cs h1 h2 h3 _ ih =>
  have ho := hp p rfl
  obtain ⟨m1, m2⟩ := m.ow b p h1 ho
  refine .opa cs m1 (m2.trans h2) h3 fun j d r => ?_
  obtain ⟨m3, m4⟩ := m.st b p j h1 ho
  have := ih j d r (fun q hq => by injection hq with hq; subst hq; exact m3)
  rwa [Option.map_some, m4] at this
def RC (g : Gh) (w : World) (p : Option Pos) : D -> Value -> Prop
 | .bx id off, v => ∃ b, g.β id = some b /\ v = .pointer (some ⟨b, off, none⟩)
 | .el id k i off, v => ∃ b, g.β id = some b /\ v = .pointer (some ⟨b, i * k + off, none⟩)
 | .bs id _ n, v => v = .slice ((g.β id).map fun b => ⟨b, 0, none⟩) n (g.κ id) /\ n <= g.κ id /\ g.κ id <= maxLen /\ (g.β id = none -> g.κ id = 0)
 | .un, v => v.oneCell' = true
 | .ag _, _ => False
 | .tup _, _ => False
 | .mb _ _, _ => False
 | d, v => Rep g.S g.up w p d v
def RCs (g : Gh) (w : World) (xs : List D) (us : List Value) : Prop := us.length = xs.length /\ ∀ (j : Nat) (x : D) (u : Value), xs[j]? = some x -> us[j]? = some u -> RC g w none x u
def RE (g : Gh) (w : World) : D -> Value -> Prop
 | .ag xs, v => ∃ us : List Value, v = .agg us.toArray /\ RCs g w xs us
 | .un, _ => True
 | d, v => RC g w none d v
def RT (g : Gh) (w : World) : D -> Value -> Prop
 | .tup xs, v => ∃ us : List Value, v = .tuple us.toArray /\ us.length = xs.length /\ ∀ (j : Nat) (x : D) (u : Value), xs[j]? = some x -> us[j]? = some u -> RE g w x u
 | .mb c x, v => (c = true -> RE g w x v) /\ (c = false -> v = undef)
 | d, v => RE g w d v
theorem Rep.rc {g : Gh} {w : World} {p : Option Pos} {d : D} {v : Value} (h : Rep g.S g.up w p d v) : RC g w p d v := by
 cases d <;> first | exact h | cases h
theorem RC.re {g : Gh} {w : World} {d : D} {v : Value} (h : RC g w none d v) : RE g w d v := by
 cases d <;> first | exact h | exact h.elim | trivial
theorem RE.rt {g : Gh} {w : World} {d : D} {v : Value} (h : RE g w d v) : RT g w d v := by
 cases d <;> first | exact h | exact (RC.elim h) | trivial | exact (show False from h).elim
theorem Rep.rt {g : Gh} {w : World} {d : D} {v : Value} (h : Rep g.S g.up w none d v) : RT g w d v := h.rc.re.rt
theorem RC.one {g : Gh} {w : World} {p : Option Pos} {d : D} {v : Value} (h : RC g w p d v) : v.oneCell' = true := by
 cases d <;> first | exact h | exact Rep.one h | (obtain ⟨b, -, rfl⟩ := h; rfl) | (obtain ⟨rfl, -⟩ := h; rfl) | exact h.elim
def scC (q : Nat -> Bool) : D -> D
 | .bx id off => if q id = true then .bx id off else .un
 | .el id k i off => if q id = true then .el id k i off else .un
 | .bs id k n => if q id = true then .bs id k n else .un
 | d => d
def scE (q : Nat -> Bool) : D -> D
 | .ag xs => .ag (xs.map (scC q))
 | d => scC q d
def scT (q : Nat -> Bool) : D -> D
 | .tup xs => .tup (xs.map (scE q))
 | .mb c x => .mb c (scE q x)
 | d => scE q d
inductive Ob where
 | box (row : List D)
 | arr (e k : Nat) (rows : List (List D))
 | hol (e k : Nat) (rows : List (List D)) (i c : Nat) (r : D)
 | rw (e k : Nat) (rows : List (List D)) (i : Nat) (rr : List D)
def scO (q : Nat -> Bool) : Ob -> Ob
 | .box row => .box (row.map (scC q))
 | .arr e k rows => .arr e k rows
 | .hol e k rows i c r => .hol e k rows i c (scC q r)
 | .rw e k rows i rr => .rw e k rows i (rr.map (scC q))
structure St where
 t : Nat -> D
 b : Nat -> Option Ob
def RO (g : Gh) (w : World) (id : Nat) : Ob -> Prop
 | .box row => ∃ (b : Nat) (cs : Array Value) (ty : Nat), g.β id = some b /\ g.up b = some (.root id) /\ w.heap[b]? = some (.cells cs ty (0, 0)) /\ cs.size = row.length /\ ∀ (j : Nat) (d : D), row[j]? = some d -> RC g w (some (.cell b j)) d (cs.getD j undef)
 | .arr e k rows => Rep g.S g.up w (some (.root id)) (.osl e k rows) (.slice ((g.β id).map fun b => ⟨b, 0, none⟩) rows.length (g.κ id))
 | .hol e k rows i0 c0 r => ∃ (b : Nat) (cs : Array Value), g.β id = some b /\ g.up b = some (.root id) /\ w.heap[b]? = some (.cells cs e (0, 0)) /\ rows.length <= g.κ id /\ g.κ id <= maxLen /\ cs.size = g.κ id * k /\ (∀ (i : Nat) (row : List D), rows[i]? = some row -> row.length = k) /\
   i0 < rows.length /\ c0 < k /\ RC g w (some (.cell b (i0 * k + c0))) r (cs.getD (i0 * k + c0) undef) /\ ∀ (i j : Nat) (row : List D) (d : D), rows[i]? = some row -> row[j]? = some d -> ¬ (i = i0 /\ j = c0) -> Rep g.S g.up w (some (.cell b (i * k + j))) d (cs.getD (i * k + j) undef)
 | .rw e k rows i0 rr => ∃ (b : Nat) (cs : Array Value), g.β id = some b /\ g.up b = some (.root id) /\ w.heap[b]? = some (.cells cs e (0, 0)) /\ rows.length <= g.κ id /\ g.κ id <= maxLen /\ cs.size = g.κ id * k /\ (∀ (i : Nat) (row : List D), rows[i]? = some row -> row.length = k) /\
   i0 < rows.length /\ rr.length = k /\ (∀ (j : Nat) (d : D), rr[j]? = some d -> RC g w (some (.cell b (i0 * k + j))) d (cs.getD (i0 * k + j) undef)) /\ ∀ (i j : Nat) (row : List D) (d : D), rows[i]? = some row -> row[j]? = some d -> i ≠ i0 -> Rep g.S g.up w (some (.cell b (i * k + j))) d (cs.getD (i * k + j) undef)
def isP (i : Nat) : Bool := decide (900000 <= i) && decide (i < 1000000)
structure Cx where
 P : Program
 N : Nat
 S0 : Nat -> Prop
 G : Nat -> Prop
 w0 : World
 β0 : Nat -> Option Nat
 κ0 : Nat -> Nat
structure Rel (x : Cx) (g : Gh) (σ : St) (a : Act) (w : World) : Prop where
 bel : Below 0 x.w0 w
 fr : ∀ b, b < x.w0.heap.size -> ¬ x.G b -> w.heap[b]? = x.w0.heap[b]?
 dfr : a.defers = []
 sz : a.tmps.size = x.N
 tm : ∀ i, RT g w (σ.t i) (a.tmps.getD i undef)
 s0 : ∀ b, x.S0 b -> g.S b
 old : ∀ b, b < x.w0.heap.size -> g.S b -> x.S0 b \/ x.G b
 new : ∀ b, g.S b -> b < w.heap.size
 own : ∀ b p, g.up b = some p -> b < w.heap.size /\ (b < x.w0.heap.size -> x.G b) /\ ¬ g.S b
 ob : ∀ id o, σ.b id = some o -> RO g w id o
 par : ∀ id o, σ.b id = some o -> isP id = true -> g.β id = x.β0 id /\ g.κ id = x.κ0 id
def St.put (σ : St) (dst : Option Tmp) (x : D) : St := match dst with
 | some d => ⟨fun i => if i = d then x else σ.t i, σ.b⟩
 | none => σ
theorem Rel.put {x : Cx} {g : Gh} {σ : St} {a : Act} {w : World} (h : Rel x g σ a w) {y : D} {v : Value} (hv : RT g w y v) (dst : Option Tmp) (hd : ∀ d, dst = some d -> d < x.N) : Rel x g (σ.put dst y) (a.put dst v) w := by
 cases dst with
 | none => exact h
 | some d =>
  have hdn := hd d rfl
  refine { h with dfr := h.dfr, sz := by simpa [Act.put] using h.sz, tm := fun i => ?_ }
  show RT g w (if i = d then y else σ.t i) ((a.tmps.setIfInBounds d v).getD i undef)
  by_cases e : i = d
  ·subst e
   rw [if_pos rfl]
   have : (a.tmps.setIfInBounds i v).getD i undef = v := by
    rw [Array.getD_eq_getD_getElem?, Array.getElem?_setIfInBounds_self_of_lt (by rw [h.sz]; exact hdn)]; rfl
   rw [this]; exact hv
  ·rw [if_neg e]
   have : (a.tmps.setIfInBounds d v).getD i undef = a.tmps.getD i undef := by
    rw [Array.getD_eq_getD_getElem?, Array.getElem?_setIfInBounds_ne (by omega), <- Array.getD_eq_getD_getElem?]
   rw [this]; exact h.tm i
structure Ev (Ok : Pos -> Prop) (π : Pos -> Pos) (q r : Nat -> Bool) (g g' : Gh) (w w' : World) : Prop extends Mv Ok π g g' w w' where
 rf : ∀ id, q id = true -> g'.β id = g.β id /\ g'.κ id = g.κ id
 kp : ∀ id, r id = true -> q id = true /\ Ok (.root id) /\ π (.root id) = .root id
section
variable {Ok : Pos -> Prop} {π : Pos -> Pos} {q r : Nat -> Bool} {g g' : Gh} {w w' : World}
theorem RC.ev (ev : Ev Ok π q r g g' w w') {p : Option Pos} (hp : ∀ z, p = some z -> Ok z) {d : D} {v : Value} (h : RC g w p d v) : RC g' w' (p.map π) (scC q d) v := by
 cases d with
 | bx id off =>
  simp only [scC]
  split
  ·rename_i hq
   obtain ⟨b, h1, h2⟩ := h
   exact ⟨b, (ev.rf id hq).1.trans h1, h2⟩
  ·exact h.one
 | el id k i off =>
  simp only [scC]
  split
  ·rename_i hq
   obtain ⟨b, h1, h2⟩ := h
   exact ⟨b, (ev.rf id hq).1.trans h1, h2⟩
  ·exact h.one
 | bs id k n =>
  simp only [scC]
  split
  ·rename_i hq
   obtain ⟨e1, e2⟩ := ev.rf id hq
   show v = _ /\ _
   rw [e1, e2]; exact h
  ·exact h.one
 | un => exact h
 | ag _ => exact h
 | tup _ => exact h
 | mb _ _ => exact h
 | _ => exact (Rep.move ev.toMv h hp).rc
theorem RCs.ev (ev : Ev Ok π q r g g' w w') {xs : List D} {us : List Value} (h : RCs g w xs us) : RCs g' w' (xs.map (scC q)) us := by
 refine ⟨by simp [h.1], fun j y u a b => ?_⟩
 rw [List.getElem?_map] at a
 cases hy : xs[j]? with
 | none => rw [hy] at a; cases a
 | some z => rw [hy] at a; injection a with a; subst a; exact (h.2 j z u hy b).ev ev (fun z hz => by cases hz)
theorem RE.ev (ev : Ev Ok π q r g g' w w') {d : D} {v : Value} (h : RE g w d v) : RE g' w' (scE q d) v := by
 cases d with
 | ag xs => obtain ⟨us, rfl, h⟩ := h; exact ⟨us, rfl, h.ev ev⟩
 | un => trivial
 | _ => simp only [RE] at h; exact (RC.ev ev (p := none) (fun z hz => by cases hz) h).re
theorem RT.ev (ev : Ev Ok π q r g g' w w') {d : D} {v : Value} (h : RT g w d v) : RT g' w' (scT q d) v := by
 cases d with
 | tup xs =>
  obtain ⟨us, rfl, h1, h2⟩ := h
  refine ⟨us, rfl, by simp [h1], fun j y u a b => ?_⟩
  rw [List.getElem?_map] at a
  cases hy : xs[j]? with
  | none => rw [hy] at a; cases a
  | some z => rw [hy] at a; injection a with a; subst a; exact (h2 j z u hy b).ev ev
 | mb c x => exact ⟨fun hc => (h.1 hc).ev ev, h.2⟩
 | _ => simp only [RT] at h; exact (RE.ev ev h).rt
theorem RO.ev (ev : Ev Ok π q r g g' w w') {id : Nat} (hr : r id = true) {o : Ob} (h : RO g w id o) : RO g' w' id (scO q o) := by
 obtain ⟨k1, k2, k3⟩ := ev.kp id hr
 obtain ⟨e1, e2⟩ := ev.rf id k1
 cases o with
 | box row =>
  obtain ⟨b, cs, ty, h1, h2, h3, h4, h5⟩ := h
  obtain ⟨m1, m2⟩ := ev.ow b _ h2 k2
  refine ⟨b, cs, ty, e1.trans h1, by rw [m1, k3], m2.trans h3, by simp [h4], fun j d hd => ?_⟩
  rw [List.getElem?_map] at hd
  cases hy : row[j]? with
  | none => rw [hy] at hd; cases hd
  | some z =>
   rw [hy] at hd; injection hd with hd; subst hd
   obtain ⟨m3, m4⟩ := ev.st b _ j h2 k2
   have := (h5 j z hy).ev ev (fun z hz => by injection hz with hz; subst hz; exact m3)
   rwa [Option.map_some, m4] at this
 | arr e k rows =>
  have := Rep.move ev.toMv h (fun z hz => by injection hz with hz; subst hz; exact k2)
  rw [Option.map_some, k3] at this
  show Rep _ _ _ _ _ _
  rw [e1, e2]; exact this
 | hol e k rows i0 c0 r =>
  obtain ⟨b, cs, h1, h2, h3, h4, h5, h6, h7, h8, h9, h10, h11⟩ := h
  obtain ⟨m1, m2⟩ := ev.ow b _ h2 k2
  refine ⟨b, cs, e1.trans h1, by rw [m1, k3], m2.trans h3, by rw [e2]; exact h4, by rw [e2]; exact h5, by rw [e2]; exact h6, h7, h8, h9, ?_, fun i j row d r1 r2 r3 => ?_⟩
  ·obtain ⟨m3, m4⟩ := ev.st b _ (i0 * k + c0) h2 k2
   have := h10.ev ev (fun z hz => by injection hz with hz; subst hz; exact m3)
   rwa [Option.map_some, m4] at this
  ·obtain ⟨m3, m4⟩ := ev.st b _ (i * k + j) h2 k2
   have := Rep.move ev.toMv (h11 i j row d r1 r2 r3) (fun z hz => by injection hz with hz; subst hz; exact m3)
   rwa [Option.map_some, m4] at this
 | rw e k rows i0 rr =>
  obtain ⟨b, cs, h1, h2, h3, h4, h5, h6, h7, h8, h9, h10, h11⟩ := h
  obtain ⟨m1, m2⟩ := ev.ow b _ h2 k2
  refine ⟨b, cs, e1.trans h1, by rw [m1, k3], m2.trans h3, by rw [e2]; exact h4, by rw [e2]; exact h5, by rw [e2]; exact h6, h7, h8, by rw [List.length_map]; exact h9, fun j d hd => ?_, fun i j row d r1 r2 r3 => ?_⟩
  ·obtain ⟨m3, m4⟩ := ev.st b _ (i0 * k + j) h2 k2
   rw [List.getElem?_map] at hd
   cases hy : rr[j]? with
   | none => rw [hy] at hd; cases hd
   | some z =>
    rw [hy] at hd; injection hd with hd; subst hd
    have := (h10 j z hy).ev ev (fun z hz => by injection hz with hz; subst hz; exact m3)
    rwa [Option.map_some, m4] at this
  ·obtain ⟨m3, m4⟩ := ev.st b _ (i * k + j) h2 k2
   have := Rep.move ev.toMv (h11 i j row d r1 r2 r3) (fun z hz => by injection hz with hz; subst hz; exact m3)
   rwa [Option.map_some, m4] at this
def St.sc (q r : Nat -> Bool) (σ : St) : St := ⟨fun i => scT q (σ.t i), fun id => if r id = true then (σ.b id).map (scO q) else none⟩
theorem Rel.ev {x : Cx} {σ : St} {a : Act} (h : Rel x g σ a w) (ev : Ev Ok π q r g g' w w') (hb : Below 0 w w') (hfr : ∀ b, b < x.w0.heap.size -> ¬ x.G b -> w'.heap[b]? = w.heap[b]?)
  (hold : ∀ b, b < x.w0.heap.size -> g'.S b -> g.S b \/ x.G b) (hnew : ∀ b, g'.S b -> b < w'.heap.size) (hown : ∀ b p, g'.up b = some p -> b < w'.heap.size /\ (b < x.w0.heap.size -> x.G b) /\ ¬ g'.S b) : Rel x g' (σ.sc q r) a w' := by
 refine ⟨h.bel.trans hb, fun b h1 h2 => (hfr b h1 h2).trans (h.fr b h1 h2), h.dfr, h.sz, fun i => (h.tm i).ev ev, fun b hs => (ev.sl b (h.s0 b hs)).1, fun b h1 h2 => ?_, hnew, hown, fun id o ho => ?_, fun id o ho hp => ?_⟩
 ·rcases hold b h1 h2 with q | q
  ·exact h.old b h1 q
  ·exact .inr q
 ·simp only [St.sc] at ho
  split at ho
  ·rename_i hr
   obtain ⟨o', h1, rfl⟩ := Option.map_eq_some_iff.1 ho
   exact (h.ob id o' h1).ev ev hr
  ·cases ho
 ·simp only [St.sc] at ho
  split at ho
  ·rename_i hr
   obtain ⟨o', h1, rfl⟩ := Option.map_eq_some_iff.1 ho
   obtain ⟨e1, e2⟩ := ev.rf id (ev.kp id hr).1
   rw [e1, e2]; exact h.par id o' h1 hp
  ·cases ho
end
def pAll : Nat -> Bool := fun _ => true
theorem Xs (d : D) : scC pAll d = d := by cases d <;> rfl
theorem uC (l : List D) : l.map (scC pAll) = l := by
 induction l with
 | nil => rfl
 | cons y l ih => rw [List.map_cons, Xs, ih]
theorem Uc (d : D) : scE pAll d = d := by
 cases d <;> first | (simp only [scE, uC]; done) | (simp only [scE]; exact Xs _)
theorem Uf (d : D) : scT pAll d = d := by
 cases d with
 | tup xs => simp only [scT]; congr 1; exact (List.map_congr_left fun y _ => Uc y).trans (List.map_id' xs)
 | mb c x => simp only [scT, Uc]
 | _ => simp only [scT]; exact Uc _
theorem Ue (o : Ob) : scO pAll o = o := by cases o <;> simp only [scO, uC, Xs]
theorem sc_all (σ : St) : σ.sc pAll pAll = σ := by
 unfold St.sc
 cases σ with
 | mk t b =>
  congr 1
  ·funext i; exact Uf _
  ·funext i
   simp only [pAll, if_true]
   cases b i with
   | none => rfl
   | some o => simp only [Option.map_some]; congr 1; exact Ue o
def dv : Value -> D
 | .slice none 0 0 => .nil
 | .pointer none => .np
 | v => .s v
theorem dv_rep {S : Nat -> Prop} {up : Nat -> Option Pos} {w : World} {p : Option Pos} (v : Value) (h : v.oneCell' = true) : Rep S up w p (dv v) v := by
 unfold dv
 split
 ·exact .nil
 ·exact .np
 ·exact .s h
inductive TK where
 | sl (e k bytes : Nat) (z : List D)
 | st (n : Nat) (fs : List (Nat × Nat × Bool)) (z : List D)
 | sc (z : D)
 | no
def aggT (P : Program) (t : TypeId) : Bool := match P.underlying t with
 | some (.struct _) | some (.array _ _) => true
 | _ => false
def szT (P : Program) (t : TypeId) : Nat := match P.info? t with
 | some i => i.size
 | none => 0
def tk (P : Program) (t : TypeId) : TK :=
 match P.underlying t, P.info? t with
 | some (.slice e), some i => match P.info? e with
  | some j => match j.zero, i.zero with
   | some z, some (.slice none 0 0) => if z.cells.size = j.size /\ 0 < j.size /\ i.size = 1 /\ z.cells.toList.all (·.oneCell') = true then .sl e j.size j.bytes (z.cells.toList.map dv) else .no
   | _, _ => .no
  | none => .no
 | some (.struct fs), some i => match i.zero with
  | some (.agg z) => if z.size = i.size /\ z.toList.all (·.oneCell') = true /\ fs.toList.all (fun f => decide (szT P f.type ≠ 0) && (P.underlying f.type).isSome && (aggT P f.type || decide (szT P f.type = 1))) = true then
    .st i.size (fs.toList.map fun f => (f.offset, szT P f.type, aggT P f.type)) (z.toList.map dv) else .no
  | _ => .no
 | some (.array _ _), _ => .no
 | some _, some i => match i.zero with
  | some z => if i.size = 1 /\ z.oneCell' = true then .sc (dv z) else .no
  | none => .no
 | none, _ => .no
 | _, none => .no
def ck (P : Program) (t : TypeId) : Option (Bool × Nat × List D) := match tk P t with
 | .sl _ _ _ _ => some (false, 1, [.nil])
 | .st n _ z => some (true, n, z)
 | .sc z => some (false, 1, [z])
 | .no => none
theorem y7 {P : Program} {t e k b : Nat} {z : List D} (h : tk P t = .sl e k b z) : P.underlying t = some (.slice e) /\ ∃ i zv, P.info? e = some i /\ i.zero = some zv /\ i.size = k /\ i.bytes = b /\ zv.cells.size = k /\ 0 < k /\
  (∀ u ∈ zv.cells.toList, u.oneCell' = true) /\ z = zv.cells.toList.map dv /\ ∃ it, P.info? t = some it /\ it.size = 1 /\ it.zero = some (.slice none 0 0) := by
 unfold tk at h
 split at h
 ·rename_i e' i h1 h2
  split at h
  ·rename_i j h3
   split at h
   ·rename_i z' h4 h5
    split at h
    ·rename_i hc
     injection h with a1 a2 a3 a4
     subst a1 a2 a3 a4
     exact ⟨h1, j, z', h3, h4, rfl, rfl, hc.1, hc.2.1, List.all_eq_true.1 hc.2.2.2, rfl, i, h2, hc.2.2.1, h5⟩
    ·cases h
   ·cases h
  ·cases h
 ·split at h
  ·split at h <;> cases h
  ·cases h
 ·cases h
 ·split at h
  ·split at h <;> cases h
  ·cases h
 ·cases h
 ·cases h
theorem tk_st {P : Program} {t n : Nat} {fs : List (Nat × Nat × Bool)} {z : List D} (h : tk P t = .st n fs z) : ∃ fields i zv, P.underlying t = some (.struct fields) /\ P.info? t = some i /\ i.size = n /\ i.zero = some (.agg zv) /\ zv.size = n /\
  (∀ u ∈ zv.toList, u.oneCell' = true) /\ z = zv.toList.map dv /\ fs = fields.toList.map (fun f => (f.offset, szT P f.type, aggT P f.type)) /\ ∀ f ∈ fields.toList, szT P f.type ≠ 0 /\ (P.underlying f.type).isSome = true /\ (aggT P f.type = true \/ szT P f.type = 1) := by
 unfold tk at h
 split at h
 ·split at h
  ·split at h
   ·split at h <;> cases h
   ·cases h
  ·cases h
 ·rename_i fs' i h1 h2
  split at h
  ·rename_i z' h4
   split at h
   ·rename_i hc
    injection h with a1 a2 a3
    subst a1 a2 a3
    refine ⟨fs', i, z', h1, h2, rfl, h4, hc.1, List.all_eq_true.1 hc.2.1, rfl, rfl, ?_⟩
    intro f hf
    have := List.all_eq_true.1 hc.2.2 f hf
    simp only [Bool.and_eq_true, Bool.or_eq_true, decide_eq_true_eq] at this
    exact ⟨this.1.1, this.1.2, this.2⟩
   ·cases h
  ·cases h
 ·cases h
 ·split at h
  ·split at h <;> cases h
  ·cases h
 ·cases h
 ·cases h
theorem tk_sc {P : Program} {t : Nat} {z : D} (h : tk P t = .sc z) : ∃ d i zv, P.underlying t = some d /\ aggT P t = false /\ P.info? t = some i /\ i.size = 1 /\ i.zero = some zv /\ zv.oneCell' = true /\ z = dv zv := by
 unfold tk at h
 split at h
 ·split at h
  ·split at h
   ·split at h <;> cases h
   ·cases h
  ·cases h
 ·split at h
  ·split at h <;> cases h
  ·cases h
 ·cases h
 ·rename_i d i n1 n2 n3 h1 h2
  split at h
  ·rename_i z' h3
   split at h
   ·rename_i hc
    injection h with a1
    subst a1
    refine ⟨d, i, z', h1, ?_, h2, hc.1, h3, hc.2, rfl⟩
    unfold aggT
    rw [h1]
    cases d <;> first | rfl | exact absurd rfl (n2 _) | exact absurd rfl (n3 _ _)
   ·cases h
  ·cases h
 ·cases h
 ·cases h
theorem wJ {P : Program} {t : TypeId} {d : TypeDesc} (h : P.underlying t = some d) (w : World) : (isAgg t).run P w = .ok (aggT P t) w := by
 unfold isAgg aggT
 simp only [Sem.run_bind, run_underlying h, Result.andThen_ok, h]
 cases d <;> rfl
theorem YV {P : Program} {t n : Nat} {ag : Bool} {z : List D} (h : ck P t = some (ag, n, z)) : (∀ w, (isAgg t).run P w = .ok ag w) /\ (∃ i zv, P.info? t = some i /\ i.size = n /\ i.zero = some zv /\ zv.cells.size = n /\ (∀ u ∈ zv.cells.toList, u.oneCell' = true) /\ z = zv.cells.toList.map dv) /\ (ag = false -> n = 1) := by
 unfold ck at h
 split at h
 ·rename_i e k b z' hk
  injection h with h; injection h with h1 h; injection h with h2 h3
  subst h1 h2 h3
  obtain ⟨hu, -, -, -, -, -, -, -, -, -, -, it, i1, i2, i3⟩ := y7 hk
  refine ⟨fun w => ?_, ⟨it, _, i1, i2, i3, rfl, ?_, rfl⟩, fun _ => rfl⟩
  ·rw [wJ hu]; unfold aggT; rw [hu]
  ·intro u hu'
   simp [Value.cells] at hu'
   subst hu'; rfl
 ·rename_i n' fs z' hk
  injection h with h; injection h with h1 h; injection h with h2 h3
  subst h1 h2 h3
  obtain ⟨fields, i, zv, a1, a2, a3, a4, a5, a6, a7, -, -⟩ := tk_st hk
  refine ⟨fun w => ?_, ⟨i, _, a2, a3, a4, a5, a6, a7⟩, fun h => by cases h⟩
  rw [wJ a1]; unfold aggT; rw [a1]
 ·rename_i z' hk
  injection h with h; injection h with h1 h; injection h with h2 h3
  subst h1 h2 h3
  obtain ⟨d, i, zv, a1, a2, a3, a4, a5, a6, a7⟩ := tk_sc hk
  have hc : zv.cells = #[zv] := by cases zv <;> first | rfl | (simp [Value.oneCell'] at a6)
  refine ⟨fun w => ?_, ⟨i, zv, a3, a4, a5, by rw [hc]; rfl, ?_, by rw [hc, a7]; rfl⟩, fun _ => rfl⟩
  ·rw [wJ a1, a2]
  ·intro u hu
   rw [hc] at hu
   simp at hu
   subst hu; exact a6
 ·cases h
theorem zf {P : Program} {t e k b : Nat} {z : List D} (h : tk P t = .sl e k b z) (w : World) : (sizeOf e).run P w = .ok k w := by
 obtain ⟨-, i, zv, h1, -, h2, -⟩ := y7 h
 simp [sizeOf, typeInfo, h1, h2]
theorem ck_size {P : Program} {t n : Nat} {ag : Bool} {z : List D} (h : ck P t = some (ag, n, z)) (w : World) : (sizeOf t).run P w = .ok n w := by
 obtain ⟨-, ⟨i, zv, h1, h2, -⟩, -⟩ := YV h
 simp [sizeOf, typeInfo, h1, h2]
theorem WC {P : Program} {t n : Nat} {z : List D} (h : ck P t = some (true, n, z)) (w : World) (ad : Addr) (cs : List Value) (hl : cs.length = n) (hc : ∀ j v, cs[j]? = some v -> w.cell? (ad.add j) = some v) :
  (loadVar t ad).run P w = .ok (.agg cs.toArray) w := by
 obtain ⟨h1, -, -⟩ := YV h
 unfold loadVar
 simp only [Sem.run_bind, h1 w, Result.andThen_ok, if_true, ck_size h w]
 have := run_loadCells_list (P := P) w ad cs hc
 rw [hl] at this
 simp [this]
theorem v9 {P : Program} {t n : Nat} {z : List D} (h : ck P t = some (false, n, z)) (w : World) (ad : Addr) (v : Value) (hc : w.cell? ad = some v) :
  (loadVar t ad).run P w = .ok v w := by
 obtain ⟨h1, -, -⟩ := YV h
 unfold loadVar
 simp only [Sem.run_bind, h1 w, Result.andThen_ok, Bool.false_eq_true, if_false]
 simp [load, Sem.run, hc]
def ev (σ : St) : Operand -> D
 | .tmp t => σ.t t
 | .const v => if v.oneCell' = true then dv v else .un
 | .func f => .fn f []
 | .global _ => .un
theorem vf {x : Cx} {g : Gh} {σ : St} {a : Act} {w : World} (h : Rel x g σ a w) (o : Operand) : RT g w (ev σ o) (a.eval o) := by
 cases o with
 | tmp t => exact h.tm t
 | const v =>
  simp only [ev]
  split
  ·rename_i hv; exact (dv_rep _ hv).rt
  ·trivial
 | func f => exact Rep.rt (Rep.fn (fun _ => undef) (fun j d hj => by simp at hj))
 | global _ => trivial
def oblT : D -> Prop
 | .mb c _ => c = true
 | _ => True
def xu : D -> D
 | .mb _ x => x
 | .tup _ => .un
 | d => d
theorem y8 {g : Gh} {w : World} {y : D} {v : Value} (h : RT g w y v) (ho : oblT y) : RE g w (xu y) v := by
 cases y with
 | mb c x => exact h.1 ho
 | tup xs => trivial
 | _ => simp only [RT] at h; exact h
def kmin : IntKind -> Int
 | .i8 => -128 | .i16 => -32768 | .i32 => -2147483648 | .i64 => -9223372036854775808 | _ => 0
def kmax : IntKind -> Int
 | .i8 => 127 | .i16 => 32767 | .i32 => 2147483647 | .i64 => 9223372036854775807
 | .u8 => 255 | .u16 => 65535 | .u32 => 4294967295 | .u64 => 18446744073709551615
theorem uu (k : IntKind) (n : Int) (h : kmin k <= n) (h' : n <= kmax k) : k.wrap n = n := by
 cases k <;> simp only [kmin, kmax] at h h' <;> simp [IntKind.wrap, IntKind.bits, IntKind.signed, BitVec.toInt_ofInt, BitVec.toNat_ofInt] <;> (try simp only [Int.bmod]) <;> (try split) <;> omega
theorem Rep.s_inv {S : Nat -> Prop} {up : Nat -> Option Pos} {w : World} {p : Option Pos} {v u : Value} (h : Rep S up w p (.s v) u) : u = v := by cases h; rfl
theorem Rep.b {S : Nat -> Prop} {up : Nat -> Option Pos} {w : World} {p : Option Pos} (b : Bool) : Rep S up w p (.s (.bool b)) (.bool b) := .s rfl
theorem Rep.i {S : Nat -> Prop} {up : Nat -> Option Pos} {w : World} {p : Option Pos} (k : IntKind) (n : Int) : Rep S up w p (.s (.int k n)) (.int k n) := .s rfl
theorem Rep.str {S : Nat -> Prop} {up : Nat -> Option Pos} {w : World} {p : Option Pos} (s : ByteArray) : Rep S up w p (.s (.string s)) (.string s) := .s rfl
def aBinI (op : BinOp) (k : IntKind) (m n : Int) : Option (Prop × D) := match op with
 | .add => some (kmin k <= m + n /\ m + n <= kmax k, .s (.int k (m + n)))
 | .sub => some (kmin k <= m - n /\ m - n <= kmax k, .s (.int k (m - n)))
 | .mul => some (kmin k <= m * n /\ m * n <= kmax k, .s (.int k (m * n)))
 | .quo => some (n ≠ 0 /\ kmin k <= m.tdiv n /\ m.tdiv n <= kmax k, .s (.int k (m.tdiv n)))
 | .rem => some (n ≠ 0, .s (.int k (m.tmod n)))
 | .eql => some (True, .s (.bool (m == n)))
 | .neq => some (True, .s (.bool (m != n)))
 | .lss => some (True, .s (.bool (decide (m < n))))
 | .leq => some (True, .s (.bool (decide (m <= n))))
 | .gtr => some (True, .s (.bool (decide (m > n))))
 | .geq => some (True, .s (.bool (decide (m ≥ n))))
 | .shl => some (0 <= n /\ n <= (k.bits : Int) /\ kmin k <= m * 2 ^ n.toNat /\ m * 2 ^ n.toNat <= kmax k, .s (.int k (m * 2 ^ n.toNat)))
 | _ => none
theorem aBinI_ok {P : Program} {op : BinOp} {t : TypeId} {k : IntKind} {m n : Int} {ob : Prop} {d : D} (h : aBinI op k m n = some (ob, d)) (ho : ob) (xo yo : Operand) (g : Gh) (w : World) :
  ∃ r, (do eqGuard op t xo yo (.int k m) (.int k n); binOp op t (.int k m) (.int k n) : Sem Value).run P w = .ok r w /\ Rep g.S g.up w none d r := by
 cases op <;> simp only [aBinI] at h <;> try (cases h; done)
 all_goals
  injection h with h
  injection h with h1 h2
  subst h1 h2
 ·exact ⟨_, by simp [go_sem, uu k _ ho.1 ho.2], .i _ _⟩
 ·exact ⟨_, by simp [go_sem, uu k _ ho.1 ho.2], .i _ _⟩
 ·exact ⟨_, by simp [go_sem, uu k _ ho.1 ho.2], .i _ _⟩
 ·exact ⟨_, by simp [go_sem, ho.1, uu k _ ho.2.1 ho.2.2], .i _ _⟩
 ·exact ⟨_, by simp [go_sem, ho], .i _ _⟩
 ·exact ⟨_, by simp [go_sem, shift_shl k k m n ho.1 ho.2.1, uu k _ ho.2.2.1 ho.2.2.2], .i _ _⟩
 all_goals exact ⟨_, by simp [go_sem], .b _⟩
def aBinS (op : BinOp) (x y : ByteArray) : Option (Prop × D) := match op with
 | .add => some (((x.size + y.size : Nat) : Int) <= 9223372036854775807, .s (.string (x ++ y)))
 | .eql => some (True, .s (.bool (x.toList == y.toList)))
 | .neq => some (True, .s (.bool (!(x.toList == y.toList))))
 | .lss => some (True, .s (.bool (Op.bytesLess x.toList y.toList)))
 | .leq => some (True, .s (.bool (Op.bytesLess x.toList y.toList || x.toList == y.toList)))
 | .gtr => some (True, .s (.bool (!(Op.bytesLess x.toList y.toList || x.toList == y.toList))))
 | .geq => some (True, .s (.bool (!Op.bytesLess x.toList y.toList)))
 | _ => none
theorem aBinS_ok {P : Program} {op : BinOp} {t : TypeId} {x y : ByteArray} {ob : Prop} {d : D} (h : aBinS op x y = some (ob, d)) (ho : ob) (xo yo : Operand) (g : Gh) (w : World) :
  ∃ r, (do eqGuard op t xo yo (.string x) (.string y); binOp op t (.string x) (.string y) : Sem Value).run P w = .ok r w /\ Rep g.S g.up w none d r := by
 cases op <;> simp only [aBinS] at h <;> try (cases h; done)
 all_goals
  injection h with h
  injection h with h1 h2
  subst h1 h2
 ·refine ⟨_, ?_, .str _⟩
  have : ¬ (9223372036854775807 < ((x.size + y.size : Nat) : Int)) := by omega
  simp only [Sem.run_bind, eqGuard_at_string, Sem.run_pure, Result.andThen_ok, binOp, Op.stringOp, IntKind.max_i64]
  rw [if_neg (by omega)]
  rfl
 all_goals
  refine ⟨_, ?_, .b _⟩
  simp only [Sem.run_bind, eqGuard_at_string, Sem.run_pure, Result.andThen_ok, binOp, Op.stringOp]
def XM (P : Program) (t : TypeId) : Nat -> Bool
 | 0 => match P.underlying t with | some (.int _) => true | _ => false
 | 1 => match P.underlying t with | some .string => true | _ => false
 | _ => match P.underlying t with | some .bool => true | _ => false
def flatB (P : Program) : List Field -> Nat -> List Nat -> Bool
 | [], _, [] => true
 | f :: fs, off, k :: ks => (f.name != "_") && (f.offset == off) && XM P f.type k && flatB P fs (off + 1) ks
 | _, _, _ => false
def sqB (P : Program) (t : TypeId) (ks : List Nat) : Bool := !P.eqGuardType P.depth t && (match P.underlying t with | some (.struct fs) => !P.stoodInHeld t && flatB P fs.toList 0 ks | _ => false)
theorem ite_some {α : Type} {p : Prop} [Decidable p] {o : Option α} {a : α} (h : (if p then o else none) = some a) : p /\ o = some a := by
 by_cases q : p
 ·exact ⟨q, by rw [if_pos q] at h; exact h⟩
 ·rw [if_neg q] at h; cases h
def eqCs : List D -> List D -> Option (List Nat × Bool)
 | [], [] => some ([], true)
 | .s (.int k a) :: xs, .s (.int k' b) :: ys => if k = k' then (eqCs xs ys).map fun r => (0 :: r.1, (a == b) && r.2) else none
 | .s (.string a) :: xs, .s (.string b) :: ys => (eqCs xs ys).map fun r => (1 :: r.1, (a.toList == b.toList) && r.2)
 | .s (.bool a) :: xs, .s (.bool b) :: ys => (eqCs xs ys).map fun r => (2 :: r.1, (a == b) && r.2)
 | _, _ => none
theorem US {P : Program} {t : TypeId} {k : Nat} (h : XM P t k = true) (w : World) (cs : Array Value) (off : Nat) (v : Value) (hv : cs[off]? = some v) : (part t cs off).run P w = .ok v w := by
 unfold XM at h
 split at h <;> (split at h <;> try (cases h; done)) <;> (rename_i hu; simp [part, Sem.run_bind, wJ hu, hv, aggT, hu])
theorem eqCs_run {P : Program} {g : Gh} {w : World} (d : Nat) : ∀ (fs : List Field) (xs ys : List D) (us vs : List Value) (ks : List Nat) (r : Bool) (pu pv : List Value), eqCs xs ys = some (ks, r) -> flatB P fs pu.length ks = true -> pu.length = pv.length ->
  RCs g w xs us -> RCs g w ys vs -> (Op.eqFields (d + 1) (pu ++ us).toArray (pv ++ vs).toArray fs).run P w = .ok r w := by
 intro fs
 induction fs with
 | nil =>
  intro xs ys us vs ks r pu pv h hf hl hx hy
  unfold eqCs at h
  split at h
  ·injection h with h; injection h with h1 h2; subst h1 h2; rfl
  all_goals
   first
   | (cases h; done)
   | (obtain ⟨q, -, hq⟩ := Option.map_eq_some_iff.1 h; injection hq with h1 h2; subst h1; cases hf)
   | (split at h <;> first | (cases h; done) | (obtain ⟨q, -, hq⟩ := Option.map_eq_some_iff.1 h; injection hq with h1 h2; subst h1; cases hf))
 | cons f fs ih =>
  intro xs ys us vs ks r pu pv h hf hl hx hy
  have step : ∀ (x y : D) (xs' ys' : List D) (k : Nat) (ks' : List Nat) (b r' : Bool), xs = x :: xs' -> ys = y :: ys' -> ks = k :: ks' -> r = (b && r') -> eqCs xs' ys' = some (ks', r') ->
    (∀ u v, RC g w none x u -> RC g w none y v -> XM P f.type k = true -> (Op.equalIn (d + 1) f.type u v).run P w = .ok b w) -> (Op.eqFields (d + 1) (pu ++ us).toArray (pv ++ vs).toArray (f :: fs)).run P w = .ok r w := by
   rintro x y xs' ys' k ks' b r' rfl rfl rfl rfl he hq
   obtain ⟨hxl, hx'⟩ := hx
   obtain ⟨hyl, hy'⟩ := hy
   match us, hxl with
   | u :: us, hxl =>
    match vs, hyl with
    | v :: vs, hyl =>
     simp only [flatB, Bool.and_eq_true, bne_iff_ne, ne_eq, beq_iff_eq] at hf
     obtain ⟨⟨⟨f1, f2⟩, f3⟩, f4⟩ := hf
     have pu1 : ((pu ++ u :: us).toArray)[f.offset]? = some u := by rw [f2]; simp
     have pv1 : ((pv ++ v :: vs).toArray)[f.offset]? = some v := by rw [f2, hl]; simp
     have e1 := hq u v (hx' 0 _ _ rfl rfl) (hy' 0 _ _ rfl rfl) f3
     have i1 := ih xs' ys' us vs ks' r' (pu ++ [u]) (pv ++ [v]) he (by simpa using f4) (by simp [hl]) ⟨by simpa using hxl, fun j c z a b => hx' (j + 1) c z (by simpa using a) (by simpa using b)⟩ ⟨by simpa using hyl, fun j c z a b => hy' (j + 1) c z (by simpa using a) (by simpa using b)⟩
     rw [List.append_assoc, List.append_assoc, List.singleton_append, List.singleton_append] at i1
     unfold Op.eqFields
     rw [if_pos f1]
     simp only [Sem.run_bind, US f3 w _ _ _ pu1, US f3 w _ _ _ pv1, Result.andThen_ok, e1]
     cases b
     ·rfl
     ·simp only [Bool.not_true, Bool.false_eq_true, if_false, Bool.true_and]
      exact i1
  unfold eqCs at h
  split at h
  ·injection h with h; injection h with h1 h2; subst h1; cases hf
  ·obtain ⟨hkk, hm⟩ := ite_some h
   subst hkk
   obtain ⟨q, hq, e⟩ := Option.map_eq_some_iff.1 hm
   injection e with e1 e2
   refine step _ _ _ _ _ _ _ _ rfl rfl e1.symm e2.symm hq fun u v hu hv hk => ?_
   obtain rfl := Rep.s_inv hu
   obtain rfl := Rep.s_inv hv
   simp only [XM] at hk
   split at hk
   ·rename_i hun; exact run_equalIn_int w d _ _ _ _ _ hun
   ·cases hk
  ·obtain ⟨q, hq, e⟩ := Option.map_eq_some_iff.1 h
   injection e with e1 e2
   refine step _ _ _ _ _ _ _ _ rfl rfl e1.symm e2.symm hq fun u v hu hv hk => ?_
   obtain rfl := Rep.s_inv hu
   obtain rfl := Rep.s_inv hv
   simp only [XM] at hk
   split at hk
   ·rename_i hun; exact run_equalIn_string w d _ _ _ hun
   ·cases hk
  ·obtain ⟨q, hq, e⟩ := Option.map_eq_some_iff.1 h
   injection e with e1 e2
   refine step _ _ _ _ _ _ _ _ rfl rfl e1.symm e2.symm hq fun u v hu hv hk => ?_
   obtain rfl := Rep.s_inv hu
   obtain rfl := Rep.s_inv hv
   simp only [XM] at hk
   split at hk
   ·rename_i hun; exact run_equalIn_bool' w d _ _ _ hun
   ·cases hk
  ·cases h
def aBin (P : Program) (op : BinOp) (t : TypeId) (x y : D) : Option (Prop × D) := match x, y with
 | .s (.int k m), .s (.int k' n) => match aBinI op k m n with
  | some (ob, d) => some (k = k' /\ ob, d)
  | none => none
 | .s (.string a), .s (.string b) => aBinS op a b
 | .s (.bool a), .s (.bool b) => match op with
  | .eql => some (P.underlying t = some .bool, .s (.bool (a == b)))
  | .neq => some (P.underlying t = some .bool, .s (.bool (!(a == b))))
  | _ => none
 | .pt _, .np => match op with
  | .eql => some (∃ e, P.underlying t = some (.pointer e), .s (.bool false))
  | .neq => some (∃ e, P.underlying t = some (.pointer e), .s (.bool true))
  | _ => none
 | .bx _ _, .np => match op with
  | .eql => some (∃ e, P.underlying t = some (.pointer e), .s (.bool false))
  | .neq => some (∃ e, P.underlying t = some (.pointer e), .s (.bool true))
  | _ => none
 | .np, .np => match op with
  | .eql => some (∃ e, P.underlying t = some (.pointer e), .s (.bool true))
  | .neq => some (∃ e, P.underlying t = some (.pointer e), .s (.bool false))
  | _ => none
 | .ag xs, .ag ys => match op, eqCs xs ys with
  | .eql, some (ks, r) => some (sqB P t ks = true, .s (.bool r))
  | .neq, some (ks, r) => some (sqB P t ks = true, .s (.bool (!r)))
  | _, _ => none
 | .sl _ rows, .nil => match op with
  | .eql => some (rows.isEmpty = false /\ ∃ e, P.underlying t = some (.slice e), .s (.bool false))
  | .neq => some (rows.isEmpty = false /\ ∃ e, P.underlying t = some (.slice e), .s (.bool true))
  | _ => none
 | .nil, .nil => match op with
  | .eql => some (∃ e, P.underlying t = some (.slice e), .s (.bool true))
  | .neq => some (∃ e, P.underlying t = some (.slice e), .s (.bool false))
  | _ => none
 | _, _ => none
theorem aBin_ok {P : Program} {op : BinOp} {t : TypeId} {x y : D} {ob : Prop} {d : D} (h : aBin P op t x y = some (ob, d)) (ho : ob) {g : Gh} {w : World} {u v : Value} (hx : RE g w x u) (hy : RE g w y v) (xo yo : Operand) :
  ∃ r, (do eqGuard op t xo yo u v; binOp op t u v : Sem Value).run P w = .ok r w /\ Rep g.S g.up w none d r := by
 unfold aBin at h
 split at h
 ·rename_i k m k' n
  split at h
  ·rename_i ob' d' h'
   injection h with h; injection h with h1 h2
   subst h1 h2
   obtain ⟨rfl, ho⟩ := ho
   obtain rfl := Rep.s_inv hx
   obtain rfl := Rep.s_inv hy
   exact aBinI_ok h' ho xo yo g w
  ·cases h
 ·obtain rfl := Rep.s_inv hx
  obtain rfl := Rep.s_inv hy
  exact aBinS_ok h ho xo yo g w
 ·obtain rfl := Rep.s_inv hx
  obtain rfl := Rep.s_inv hy
  split at h <;> try (cases h; done)
  all_goals
   injection h with h; injection h with h1 h2
   subst h1 h2
   refine ⟨_, ?_, .b _⟩
   simp only [Sem.run_bind, eqGuard_at_bool, Sem.run_pure, Result.andThen_ok, binOp, run_equal_bool w t _ _ ho]
 ·cases hx
  cases hy
  split at h <;> try (cases h; done)
  all_goals
   injection h with h; injection h with h1 h2
   subst h1 h2
   obtain ⟨e, ho⟩ := ho
   refine ⟨_, ?_, .b _⟩
   simp only [Sem.run_bind, eqGuard_at_pointer, Sem.run_pure, Result.andThen_ok, binOp, run_equal_pointer_nil w t _ (show P.underlying t = some (.pointer (P.pointee t)) by unfold Program.pointee; rw [ho])]
   rfl
 ·obtain ⟨b, -, rfl⟩ := hx
  cases hy
  split at h <;> try (cases h; done)
  all_goals
   injection h with h; injection h with h1 h2
   subst h1 h2
   obtain ⟨e, ho⟩ := ho
   refine ⟨_, ?_, .b _⟩
   simp only [Sem.run_bind, eqGuard_at_pointer, Sem.run_pure, Result.andThen_ok, binOp, run_equal_pointer_nil w t _ (show P.underlying t = some (.pointer (P.pointee t)) by unfold Program.pointee; rw [ho])]
   rfl
 ·cases hx
  cases hy
  split at h <;> try (cases h; done)
  all_goals
   injection h with h; injection h with h1 h2
   subst h1 h2
   obtain ⟨e, ho⟩ := ho
   refine ⟨_, ?_, .b _⟩
   simp only [Sem.run_bind, eqGuard_at_pointer, Sem.run_pure, Result.andThen_ok, binOp, run_equal_pointer_nil w t _ (show P.underlying t = some (.pointer (P.pointee t)) by unfold Program.pointee; rw [ho])]
   rfl
 ·rename_i xs ys
  obtain ⟨us, rfl, hx⟩ := hx
  obtain ⟨vs, rfl, hy⟩ := hy
  have key : ∀ ks r, eqCs xs ys = some (ks, r) -> sqB P t ks = true -> (eqGuard op t xo yo (.agg us.toArray) (.agg vs.toArray)).run P w = .ok () w /\ (Op.equalIn 10000 t (.agg us.toArray) (.agg vs.toArray)).run P w = .ok r w := by
   intro ks r he hs
   unfold sqB at hs
   simp only [Bool.and_eq_true, Bool.not_eq_true'] at hs
   obtain ⟨s1, s2⟩ := hs
   split at s2
   ·rename_i fs hu
    simp only [Bool.and_eq_true, Bool.not_eq_true'] at s2
    have hfs : P.fieldsOf t = fs := by unfold Program.fieldsOf; rw [hu]
    refine ⟨run_eqGuard_agg w op t xo yo _ _ s1, ?_⟩
    rw [run_equalIn_agg w 9999 t _ _ (by rw [hfs]; exact hu) s2.1, hfs]
    have := eqCs_run (P := P) (g := g) (w := w) 9998 fs.toList xs ys us vs ks r [] [] he s2.2 rfl hx hy
    simpa using this
   ·cases s2
  split at h
  ·rename_i ks r he
   injection h with h; injection h with h1 h2
   subst h1 h2
   obtain ⟨k1, k2⟩ := key ks r he ho
   exact ⟨_, by simp only [Sem.run_bind, k1, Result.andThen_ok, run_eql_struct, k2], .b _⟩
  ·rename_i ks r he
   injection h with h; injection h with h1 h2
   subst h1 h2
   obtain ⟨k1, k2⟩ := key ks r he ho
   exact ⟨_, by simp only [Sem.run_bind, k1, Result.andThen_ok, run_neq_struct, k2], .b _⟩
  ·cases h
 ·rename_i k rows
  have hx : Rep g.S g.up w none (.sl k rows) u := hx
  have hy : Rep g.S g.up w none .nil v := hy
  split at h <;> try (cases h; done)
  all_goals
   injection h with h; injection h with h1 h2
   subst h1 h2
   obtain ⟨hne, e, ho⟩ := ho
   cases hy
   cases hx with
   | sl0 _ => cases hne
   | sl us c1 c2 c3 c4 c5 =>
    refine ⟨_, ?_, .b _⟩
    simp only [Sem.run_bind, eqGuard_at_slice, Sem.run_pure, Result.andThen_ok, binOp, run_equal_slice_nil w t e _ _ _ ho]
    rfl
 ·have hx : Rep g.S g.up w none .nil u := hx
  have hy : Rep g.S g.up w none .nil v := hy
  split at h <;> try (cases h; done)
  all_goals
   injection h with h; injection h with h1 h2
   subst h1 h2
   obtain ⟨e, ho⟩ := ho
   cases hy
   cases hx
   refine ⟨_, ?_, .b _⟩
   simp only [Sem.run_bind, eqGuard_at_slice, Sem.run_pure, Result.andThen_ok, binOp, run_equal_slice_nil w t e _ _ _ ho]
   rfl
 ·cases h
def aUn (op : UnOp) (x : D) : Option (Prop × D) := match op, x with
 | .not, .s (.bool b) => some (True, .s (.bool (!b)))
 | .neg, .s (.int k n) => some (kmin k <= 0 - n /\ 0 - n <= kmax k, .s (.int k (0 - n)))
 | _, _ => none
theorem aUn_ok {P : Program} {op : UnOp} {x : D} {ob : Prop} {d : D} (h : aUn op x = some (ob, d)) (ho : ob) {g : Gh} {w : World} {u : Value} (hx : RE g w x u) :
  ∃ r, (Op.unary op u).run P w = .ok r w /\ Rep g.S g.up w none d r := by
 unfold aUn at h
 split at h <;> try (cases h; done)
 all_goals
  injection h with h; injection h with h1 h2
  subst h1 h2
  obtain rfl := Rep.s_inv hx
 ·exact ⟨_, by simp [Op.unary], .b _⟩
 ·exact ⟨_, by simp only [Op.unary, Op.intArith, uu _ _ ho.1 ho.2, Sem.run_pure], .i _ _⟩
theorem add_lit (b o n : Nat) : (⟨b, o, none⟩ : Addr).add n = ⟨b, o + n, none⟩ := Addr.add_lit b o n
theorem xZ {α : Type} {l : List α} {j : Nat} {x d : α} (h : l[j]? = some x) : l.getD j d = x := by rw [List.getD_eq_getElem?_getD, h]; rfl
theorem zP {α : Type} {l : Array α} {j : Nat} {d : α} (h : j < l.size) : l[j]? = some (l.getD j d) := by rw [Array.getD_eq_getD_getElem?, Array.getElem?_eq_getElem h]; rfl
def ldC : D -> D
 | .osl _ _ _ => .un
 | .opa _ _ => .un
 | d => d
theorem Rep.free {S : Nat -> Prop} {up : Nat -> Option Pos} {w : World} {p : Option Pos} {d : D} {v : Value} (h : Rep S up w p d v) (h1 : ∀ e k rows, d ≠ .osl e k rows) (h2 : ∀ k row, d ≠ .opa k row) (p' : Option Pos) : Rep S up w p' d v := by
 cases h with
 | s h => exact .s h
 | nil => exact .nil
 | np => exact .np
 | sl0 h => exact .sl0 h
 | sl us a b c d e => exact .sl us a b c d e
 | pt us a b => exact .pt us a b
 | fn us a => exact .fn us a
 | osl0 => exact absurd rfl (h1 _ _ _)
 | osl => exact absurd rfl (h1 _ _ _)
 | opa => exact absurd rfl (h2 _ _)
theorem ldC_ok {g : Gh} {w : World} {p : Option Pos} {d : D} {v : Value} (h : RC g w p d v) : RC g w none (ldC d) v := by
 have one := h.one
 cases d with
 | osl e k rows => exact one
 | opa k row => exact one
 | bx id off => exact h
 | el id k i off => exact h
 | bs id k n => exact h
 | un => exact h
 | ag _ => exact h
 | tup _ => exact h
 | mb _ _ => exact h
 | _ => exact (Rep.free (p := p) h (fun _ _ _ q => by cases q) (fun _ _ q => by cases q) none).rc
def XN (P : Program) (t : TypeId) (row : List D) (off : Nat) : Option (Prop × D) := match ck P t with
 | some (true, n, _) => some (off + n <= row.length, .ag (((row.drop off).take n).map ldC))
 | some (false, _, _) => match row.drop off with
  | c :: _ => some (True, ldC c)
  | [] => none
 | none => none
def uS (P : Program) (σ : St) (t : TypeId) (x : D) : Option (Prop × D) := match x with
 | .pt row => XN P t row 0
 | .bx id off => match σ.b id with
  | some (.box row) => XN P t row off
  | _ => none
 | .el id k i off => match σ.b id with
  | some (.arr _ k' rows) => match XN P t (rows.getD i []) off with
   | some (ob, y) => some (k' = k /\ i < rows.length /\ ob, y)
   | none => none
  | some (.hol _ k' _ i0 c0 r) => match ck P t with
   | some (false, _, _) => some (k' = k /\ i = i0 /\ off = c0, ldC r)
   | _ => none
  | some (.rw _ k' _ i0 rr) => match XN P t rr off with
   | some (ob, y) => some (k' = k /\ i = i0 /\ ob, y)
   | none => none
  | _ => none
 | _ => none
theorem XO {P : Program} {t : TypeId} {row : List D} {off : Nat} {z : D} {ob : Prop} (h : XN P t row off = some (ob, z)) (ho : ob) {g : Gh} {w : World} {b o : Nat} {us : Nat -> Value} {ps : Nat -> Option Pos}
  (h1 : ∀ (j : Nat) (d : D), row[j]? = some d -> w.cell? ⟨b, o + j, none⟩ = some (us j) /\ RC g w (ps j) d (us j)) :
  ∃ r, (loadVar t ⟨b, o + off, none⟩).run P w = .ok r w /\ RE g w z r := by
 unfold XN at h
 split at h
 ·rename_i n _ hk
  injection h with h; injection h with e1 e2
  subst e1 e2
  let cs := (List.range n).map fun j => us (off + j)
  refine ⟨.agg cs.toArray, WC hk w _ cs (by simp [cs]) (fun j v hj => ?_), cs, rfl, by simp [cs, List.length_take, List.length_drop]; omega, fun j y u hy hu => ?_⟩
  ·have hjn : j < n := by
    rcases Nat.lt_or_ge j n with q | q
    ·exact q
    ·rw [List.getElem?_eq_none (by simpa [cs] using q)] at hj; cases hj
   have hv : us (off + j) = v := by simpa [cs, hjn] using hj
   subst hv
   rw [add_lit, Nat.add_assoc]
   exact (h1 (off + j) (row[off + j]'(by omega)) (by simp)).1
  ·rw [List.getElem?_map, List.getElem?_take] at hy
   split at hy
   ·rename_i hjn
    rw [List.getElem?_drop] at hy
    cases hj : row[off + j]? with
    | none => rw [hj] at hy; cases hy
    | some d =>
     rw [hj] at hy
     injection hy with hy
     subst hy
     have hv : us (off + j) = u := by simpa [cs, hjn] using hu
     subst hv
     exact ldC_ok (h1 _ d hj).2
   ·cases hy
 ·rename_i n _ hk
  split at h
  ·rename_i c row' hd
   injection h with h; injection h with e1 e2
   subst e1 e2
   have hc : row[off]? = some c := by have := congrArg (fun l => l[0]?) hd; simpa using this
   exact ⟨us off, v9 hk w _ _ (h1 off c hc).1, (ldC_ok (h1 off c hc).2).re⟩
  ·cases h
 ·cases h
theorem VA {x : Cx} {σ : St} {t : TypeId} {y z : D} {ob : Prop} (h : uS x.P σ t y = some (ob, z)) (ho : ob) {g : Gh} {a : Act} {w : World} (hr : Rel x g σ a w) {u : Value} (hu : RE g w y u) :
  ∃ r, (Instr.loadAt t u).run x.P w = .ok r w /\ RE g w z r := by
 unfold uS at h
 split at h
 ·have hu : Rep g.S g.up w none (.pt _) u := hu
  cases hu with
  | @pt _ _ b off us h1 h2 =>
   obtain ⟨r, r1, r2⟩ := XO (g := g) (w := w) (b := b) (o := off) (us := us) (ps := fun _ => none) h ho (fun j d hj => ⟨(h1 j d hj).2, (h2 j d hj).rc⟩)
   exact ⟨r, by simp only [Instr.loadAt, Sem.run_bind, Instr.sureAddr, Sem.run_pure, Result.andThen_ok]; exact r1, r2⟩
 ·rename_i id off
  split at h
  ·rename_i row hb
   obtain ⟨b, cs, ty, b1, b2, b3, b4, b5⟩ := hr.ob id _ hb
   obtain ⟨b', c1, rfl⟩ := hu
   rw [b1] at c1; injection c1 with c1; subst c1
   obtain ⟨r, r1, r2⟩ := XO (g := g) (w := w) (b := b) (o := 0) (us := fun j => cs.getD j undef) (ps := fun j => some (.cell b j)) h ho (fun j d hj => ⟨by
    have hl : j < cs.size := by rw [b4]; exact (List.getElem?_eq_some_iff.1 hj).1
    simp only [World.cell?, b3, Nat.zero_add]
    rw [if_neg (by simp)]
    exact zP hl, b5 j d hj⟩)
   rw [Nat.zero_add] at r1
   exact ⟨r, by simp only [Instr.loadAt, Sem.run_bind, Instr.sureAddr, Sem.run_pure, Result.andThen_ok]; exact r1, r2⟩
  ·cases h
 ·rename_i id k i off
  split at h
  ·rename_i e k' rows hb
   split at h
   ·rename_i ob' y' h'
    injection h with h; injection h with e1 e2
    subst e1 e2
    obtain ⟨rfl, hi, ho⟩ := ho
    have hR := hr.ob id _ hb
    obtain ⟨b', c1, rfl⟩ := hu
    have hR : Rep g.S g.up w (some (.root id)) (.osl e k' rows) (.slice ((g.β id).map fun b => ⟨b, 0, none⟩) rows.length (g.κ id)) := hR
    rw [c1, Option.map_some] at hR
    cases hR with
    | @osl _ _ _ _ _ _ cs q1 q2 q3 q4 q5 q6 q7 =>
     have hg : rows[i]? = some rows[i] := List.getElem?_eq_getElem hi
     rw [xZ hg] at h'
     obtain ⟨r, r1, r2⟩ := XO (g := g) (w := w) (b := b') (o := i * k') (us := fun j => cs.getD (i * k' + j) undef) (ps := fun j => some (.cell b' (i * k' + j))) h' ho (fun j d hj => ⟨by
      have hjk : j < k' := by rw [<- q6 i _ hg]; exact (List.getElem?_eq_some_iff.1 hj).1
      have hlt : i * k' + j < cs.size := by
       have h1 : (i + 1) * k' <= g.κ id * k' := Nat.mul_le_mul_right _ (by omega)
       rw [Nat.add_mul, Nat.one_mul] at h1
       omega
      simp only [World.cell?, q2]
      rw [if_neg (by simp)]
      exact zP hlt, (q7 i j _ d hg hj).rc⟩)
     exact ⟨r, by simp only [Instr.loadAt, Sem.run_bind, Instr.sureAddr, Sem.run_pure, Result.andThen_ok]; exact r1, r2⟩
   ·cases h
  ·rename_i e k' rows i0 c0 r hb
   split at h
   ·rename_i n _ hk
    injection h with h; injection h with e1 e2
    subst e1 e2
    obtain ⟨rfl, rfl, rfl⟩ := ho
    obtain ⟨b, cs, h1, h2, h3, h4, h5, h6, h7, h8, h9, h10, h11⟩ := hr.ob id _ hb
    obtain ⟨b', c1, rfl⟩ := hu
    rw [h1] at c1; injection c1 with c1; subst c1
    have hlt : i * k' + off < cs.size := by
     have : (i + 1) * k' <= g.κ id * k' := Nat.mul_le_mul_right _ (by omega)
     rw [Nat.add_mul, Nat.one_mul] at this
     omega
    refine ⟨_, ?_, (ldC_ok h10).re⟩
    simp only [Instr.loadAt, Sem.run_bind, Instr.sureAddr, Sem.run_pure, Result.andThen_ok]
    refine v9 hk w _ _ ?_
    simp only [World.cell?, h3]
    rw [if_neg (by simp)]
    exact zP hlt
   ·cases h
  ·rename_i e k' rows i0 rr hb
   split at h
   ·rename_i ob' y' h'
    injection h with h; injection h with e1 e2
    subst e1 e2
    obtain ⟨rfl, rfl, ho⟩ := ho
    obtain ⟨b, cs, h1, h2, h3, h4, h5, h6, h7, h8, h9, h10, h11⟩ := hr.ob id _ hb
    obtain ⟨b', c1, rfl⟩ := hu
    rw [h1] at c1; injection c1 with c1; subst c1
    obtain ⟨r, r1, r2⟩ := XO (g := g) (w := w) (b := b) (o := i * k') (us := fun j => cs.getD (i * k' + j) undef) (ps := fun j => some (.cell b (i * k' + j))) h' ho (fun j d hj => ⟨by
     have hjk : j < k' := by rw [<- h9]; exact (List.getElem?_eq_some_iff.1 hj).1
     have hlt : i * k' + j < cs.size := by
      have h1 : (i + 1) * k' <= g.κ id * k' := Nat.mul_le_mul_right _ (by omega)
      rw [Nat.add_mul, Nat.one_mul] at h1
      omega
     simp only [World.cell?, h3]
     rw [if_neg (by simp)]
     exact zP hlt, h10 j d hj⟩)
    exact ⟨r, by simp only [Instr.loadAt, Sem.run_bind, Instr.sureAddr, Sem.run_pure, Result.andThen_ok]; exact r1, r2⟩
   ·cases h
  ·cases h
 ·cases h
end
end Go.Proofs.YtmnokalddmlogaaGreat
