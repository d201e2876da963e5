/- Parts of the proof, laid together: GwB, DecB, HaB, CurB, Txt, Quo, Unq, HTok, LexM, NmB, HLexA, HLexB, HLexC, DrLex. -/
import Derived.BigQuiet
import Derived.Deep.LoopGhost
import Derived.Deep.QuietTactic
import Derived.Deep.RegionLaw
import Derived.Deep.RegionWith
import Derived.Deep.Slices
import Derived.Laws.Cover3
import Derived.Laws.EntriesVeiled
import Derived.Laws.IdiomStrings
import Derived.Laws.StructEq
import Derived.Lib.AppendStr
import Derived.Lib.Hide
import Derived.Lib.SlBytesConst
import Derived.ProofKit
import Derived.Test.YtgcdbmcoendcdaaGreatProg
import Derived.WalkKit
import Derived.Test.YtgcdbmcoendcdaaGreatS4
set_option maxRecDepth 100000
set_option maxHeartbeats 8000000
set_option linter.unusedVariables false
set_option linter.unusedSimpArgs false
namespace Go.Proofs.YtgcdbmcoendcdaaGreat
open Go.RowKit Go.ChangeShapes Go.WideShapes
def Zm (W : World) : Nat -> Prop := fun b => b < W.heap.size
abbrev upW : Nat -> Option Pos := fun _ => none
def RepL (S : Nat -> Prop) (up : Nat -> Option Pos) (w : World) (ds : List D) (us : List Value) : Prop := us.length = ds.length /\ ∀ (j : Nat) (d : D) (u : Value), ds[j]? = some d -> us[j]? = some u -> Rep S up w none d u
theorem cell_lt {W : World} {b o : Nat} {v : Value} (h : W.cell? ⟨b, o, none⟩ = some v) : b < W.heap.size := by
 rcases Nat.lt_or_ge b W.heap.size with q | q
 ·exact q
 ·simp [World.cell?, Array.getElem?_eq_none q] at h
theorem CellsAt.cellW {W : World} {b off : Nat} {r : List Value} (h : CellsAt (hp W) b off r) {j : Nat} {u : Value} (hj : r[j]? = some u) : W.cell? ⟨b, off + j, none⟩ = some u := by
 have hlt := (List.getElem?_eq_some_iff.1 hj).1
 rw [h.cell (Sub.self W) hlt, <- hj, List.getElem?_eq_getElem hlt]
theorem SlOf.rep {α : Type} {enc : α -> List D} {ok : α -> Prop} {k : Nat} {W : World} {R : Hp -> List Value -> α -> Prop} (hR : ∀ r x, R (hp W) r x -> RepL (Zm W) upW W (enc x) r /\ ok x) {v : Value} {xs : List α} (h : SlOf k R (hp W) v xs) :
  Rep (Zm W) upW W none (.sl k (xs.map enc)) v /\ ∀ x ∈ xs, ok x := by
 obtain ⟨a, c, rfl, h1, h2, rfl | ⟨b, off, rfl, hc⟩⟩ := h
 ·exact ⟨.sl0 h2, fun x hx => by cases hx⟩
 ·have key : ∀ i (hi : i < xs.length), ∃ r : List Value, r.length = k /\ (∀ (j : Nat) (u : Value), r[j]? = some u -> W.cell? ⟨b, off + i * k + j, none⟩ = some u) /\ RepL (Zm W) upW W (enc xs[i]) r /\ ok xs[i] := by
   intro i hi
   obtain ⟨r, r1, r2, r3⟩ := hc i hi
   exact ⟨r, r1, fun j u hj => r2.cellW hj, hR _ _ r3⟩
  refine ⟨?_, fun x hx => ?_⟩
  ·have hrows : ∀ (i : Nat) (row : List D), (xs.map enc)[i]? = some row -> ∃ hi : i < xs.length, row = enc xs[i] := by
    intro i row h
    rw [List.getElem?_map] at h
    cases hx : xs[i]? with
    | none => rw [hx] at h; cases h
    | some y =>
     rw [hx] at h
     injection h with h
     obtain ⟨hi, e⟩ := List.getElem?_eq_some_iff.1 hx
     exact ⟨hi, by rw [<- h, <- e]⟩
   have hcell : ∀ (i j : Nat) (row : List D) (d : D), (xs.map enc)[i]? = some row -> row[j]? = some d -> ∃ u, W.cell? ⟨b, off + i * k + j, none⟩ = some u /\ Rep (Zm W) upW W none d u := by
    intro i j row d hi hj
    obtain ⟨hi', rfl⟩ := hrows i row hi
    obtain ⟨r, r1, r2, r3, -⟩ := key i hi'
    have hlt : j < r.length := by rw [r3.1]; exact (List.getElem?_eq_some_iff.1 hj).1
    exact ⟨r[j], r2 j _ (List.getElem?_eq_getElem hlt), r3.2 j d _ hj (List.getElem?_eq_getElem hlt)⟩
   have hlen : xs.length = (xs.map enc).length := by simp
   rw [hlen]
   refine Rep.sl (fun i j => (W.cell? ⟨b, off + i * k + j, none⟩).getD undef) (by rw [<- hlen]; exact h1) h2 (fun i row hi => ?_) (fun i j row d hi hj => ?_) (fun i j row d hi hj => ?_)
   ·obtain ⟨hi', rfl⟩ := hrows i row hi
    obtain ⟨r, r1, r2, r3, -⟩ := key i hi'
    rw [<- r3.1, r1]
   ·obtain ⟨u, hu, hr⟩ := hcell i j row d hi hj
    exact ⟨cell_lt hu, by rw [hu]; rfl⟩
   ·obtain ⟨u, hu, hr⟩ := hcell i j row d hi hj
    rw [hu]; exact hr
  ·obtain ⟨i, hi, rfl⟩ := List.getElem_of_mem hx
   obtain ⟨r, _, _, _, h⟩ := key i hi
   exact h
theorem Rep.slOf {α : Type} {enc : α -> List D} {k : Nat} {S : Nat -> Prop} {up : Nat -> Option Pos} {W : World} {R : Hp -> List Value -> α -> Prop} {xs : List α} (hk : ∀ x ∈ xs, (enc x).length = k) (hk0 : 0 < k) (hR : ∀ r x, x ∈ xs -> RepL S up W (enc x) r -> R (hp W) r x) {v : Value} (h : Rep S up W none (.sl k (xs.map enc)) v) : SlOf k R (hp W) v xs := by
 generalize hrows : xs.map enc = rows at h
 cases h with
 | sl0 hc =>
  have : xs = [] := by cases xs with | nil => rfl | cons _ _ => simp at hrows
  subst this
  exact ⟨_, _, rfl, Nat.zero_le _, hc, .inl rfl⟩
 | @sl _ _ _ b off c us c1 c2 c3 c4 c5 =>
  subst hrows
  refine ⟨_, c, by simp, by simpa using c1, c2, .inr ⟨b, off, rfl, fun i hi => ?_⟩⟩
  have hg : (xs.map enc)[i]? = some (enc xs[i]) := by rw [List.getElem?_map, List.getElem?_eq_getElem hi]; rfl
  have hl := hk xs[i] (List.getElem_mem hi)
  have hlr : ((List.range k).map (us i)).length = k := by simp
  refine ⟨(List.range k).map (us i), hlr, WE (by omega) (fun j hj => ?_), hR _ _ (List.getElem_mem hi) ⟨by simp [hl], fun j d u hd hu => ?_⟩⟩
  ·have hjk : j < k := by omega
   have := (c4 i j _ ((enc xs[i])[j]'(by omega)) hg (List.getElem?_eq_getElem _)).2
   rw [this]
   simp [hjk]
  ·have hjk : j < k := by rw [<- hl]; exact (List.getElem?_eq_some_iff.1 hd).1
   have hu' : us i j = u := by simpa [hjk] using hu
   subst hu'
   exact c5 i j _ d hg hd
def RB (S : Nat -> Prop) (up : Nat -> Option Pos) (w : World) : D -> Value -> Prop
 | .ag xs, v => ∃ us : List Value, v = .agg us.toArray /\ RepL S up w xs us
 | d, v => Rep S up w none d v
def lentB : D -> Bool
 | .ag xs => xs.all fun y => !ownB y
 | d => !ownB d
theorem Rep.lent {S : Nat -> Prop} {up : Nat -> Option Pos} {w : World} {p : Option Pos} {d : D} {v : Value} (h : Rep S up w p d v) (hd : ownB d = false) : Rep S up w none d v := h.free (fun _ _ _ q => by subst q; cases hd) (fun _ q => by subst q; cases hd) none
theorem RA.lent {g : Gh} {w : World} {j : Nat} {d : D} {v : Value} (h : RA g w j d v) (hd : lentB d = true) : RB g.S g.up w d v := by
 cases d with
 | ag xs =>
  obtain ⟨us, rfl, u1, u2⟩ := h
  refine ⟨us, rfl, u1, fun l x u hx hu => (u2 l x u hx hu).lent ?_⟩
  have := List.all_eq_true.1 hd x (List.mem_of_getElem? hx)
  simpa using this
 | un => simp only [RA] at h; cases h
 | tup _ => simp only [RA] at h; cases h
 | mb _ _ => simp only [RA] at h; cases h
 | bx _ _ => simp only [RA] at h; cases h
 | el _ _ _ _ => simp only [RA] at h; cases h
 | bs _ _ _ => simp only [RA] at h; cases h
 | osl _ _ _ => cases hd
 | opt _ => cases hd
 | _ => simp only [RA] at h; exact h.lent rfl
theorem FCon.ofBelow {P : Program} {f : FuncId} {fn : Func} {c : Code} (hf : P.funcs[f]? = some fn) (hname : (fn.name == "runtime.NumGoroutine") = false) (hb : fn.body = some c) {ars : List D} {Rv : Value -> Prop} {Rs : D -> List D -> Prop} (hR : ∀ v, Rv v -> v.oneCell' = true /\ Rs (.s v) []) (hl : ars.all lentB = true)
  (h : ∀ (w : World) (S : Nat -> Prop) (up : Nat -> Option Pos) (vs : List Value), vs.length = ars.length -> (∀ (j : Nat) (b : D) (u : Value), ars[j]? = some b -> vs[j]? = some u -> RB S up w b u) -> Calls P f vs.toArray w (fun e w' => ∃ v, e = .returned v /\ Rv v /\ Below w.heap.size w w')) : FCon P f ars Rs := by
 refine ⟨fun vs w => ?_, fun w g vs hS hu hl' hv => (h w g.S g.up vs hl' (fun j b u q1 q2 => (hv j b u q1 q2).lent (List.all_eq_true.1 hl b (List.mem_of_getElem? q1)))).mono ?_⟩
 ·have hname' : ¬ fn.name = "runtime.NumGoroutine" := by simpa using hname
  have hbn : ¬ fn.body = none := by rw [hb]; simp
  simp [callFunc, hf, hname', hbn]
 ·rintro e w' ⟨v, rfl, hv, hbel⟩
  obtain ⟨h1, h2⟩ := hR v hv
  exact ⟨v, ⟨fun _ => none, fun _ => 0, fun _ => none, g.S⟩, _, [], rfl, ⟨hbel.os, hbel.tape, hbel.output, hbel.size, fun k hk => by omega⟩, fun b hb' _ => hbel.block b hb', fun _ q => q, fun _ _ q => .inl q, fun b q => Nat.lt_of_lt_of_le (hS b q) hbel.size, fun b p q => (by cases q), h2, Rep.s h1, fun j d u q => (by simp at q)⟩
theorem XH {P : Nat -> D -> Value -> Prop} {b : D} {vs : List Value} (hl : vs.length = [b].length) (h : ∀ (j : Nat) (c : D) (u : Value), [b][j]? = some c -> vs[j]? = some u -> P j c u) : ∃ v, vs = [v] /\ P 0 b v := by
 match vs, hl with
 | [v], _ => exact ⟨v, rfl, h 0 b v rfl rfl⟩
theorem RepL.nil {S : Nat -> Prop} {up : Nat -> Option Pos} {W : World} : RepL S up W [] [] := ⟨rfl, fun j d u h => by simp at h⟩
theorem RepL.cons {S : Nat -> Prop} {up : Nat -> Option Pos} {W : World} {d : D} {u : Value} {ds : List D} {us : List Value} (h : Rep S up W none d u) (t : RepL S up W ds us) : RepL S up W (d :: ds) (u :: us) := ⟨by simp [t.1], fun j d' u' h1 h2 => by
 cases j with
 | zero => simp at h1 h2; subst h1 h2; exact h
 | succ j => exact t.2 j d' u' (by simpa using h1) (by simpa using h2)⟩
def RdE {α : Type} (t : TypeId) (k : Nat) (enc : α -> List D) (ok : α -> Prop) : Prop :=
 Tryz.prog.cellsOf t = k /\ ∀ (H : Type) (en : TypeId × Value -> H) (W : World) (n : Nat) (cs : List Value) (x : DataW H × List MemPlace), Rd en Tryz.prog W n t cs x -> ∃ a : α, RepL (Zm W) upW W (enc a) cs /\ ok a
theorem V7 {S : Nat -> Prop} {up : Nat -> Option Pos} {W : World} {d : D} {v : Value} (h : Rep S up W none d v) : RepL S up W [d] [v] := RepL.cons h (RepL.nil)
theorem RdE.slice {α : Type} {t e : TypeId} {k : Nat} {enc : α -> List D} {ok : α -> Prop} (hu : Tryz.prog.underlying t = some (.slice e)) (hc : Tryz.prog.cellsOf t = 1) (hk : 0 < k) (h : RdE e k enc ok) : RdE t 1 (fun xs : List α => [.sl k (xs.map enc)]) (fun xs => ∀ x ∈ xs, ok x) := by
 refine ⟨hc, fun H en W n cs x hr => ?_⟩
 obtain ⟨v, xs, rfl, hs⟩ := rd_slice k (fun hh r (x : α) => hh = hp W /\ RepL (Zm W) upW W (enc x) r /\ ok x) hu h.1 hk (fun n cs' y hy => by
  obtain ⟨a, h1, h2⟩ := h.2 H en W n cs' y hy
  exact ⟨a, rfl, h1, h2⟩) hr
 obtain ⟨h1, h2⟩ := SlOf.rep (enc := enc) (ok := ok) (fun r x hr => hr.2) hs
 exact ⟨xs, V7 h1, h2⟩
theorem args1 {P : D -> Value -> Prop} {b0 : D} {v0 : Value} (h0 : P b0 v0) : ∀ (j : Nat) (b : D) (u : Value), [b0][j]? = some b -> [v0][j]? = some u -> P b u
 | 0, _, _, rfl, rfl => h0
end Go.Proofs.YtgcdbmcoendcdaaGreat
namespace Go.Proofs.YtgcdbmcoendcdaaGreat
open Go.RowKit
def St.nilE (σ : St) (id : Nat) (row : List D) (c nm e k : Nat) : St := ((σ.sc (pOut [nm]) (pOut [nm])).setB id (.box ((row.map (scC (pOut [nm]))).set c (.bs nm k 0)))).setB nm (.arr e k [])
theorem Rel.nilE {x : Cx} {g : Gh} {σ : St} {a : Act} {w : World} (h : Rel x g σ a w) {id c nm : Nat} {row : List D} (e k : Nat) (hb : σ.b id = some (.box row)) (hc : row[c]? = some .nil) (hne : nm ≠ id) (hnP : isP nm = false) : ∃ g', Rel x g' (σ.nilE id row c nm e k) a w := by
 let g' : Gh := ⟨fun j => if j = nm then none else g.β j, fun j => if j = nm then 0 else g.κ j, g.up, g.S⟩
 have ev : Ev (fun p => p ≠ .root nm) (fun p => p) (pOut [nm]) (pOut [nm]) g g' w w := by
  refine ⟨⟨fun b hb => ⟨hb, rfl⟩, fun b p hp _ => ⟨hp, rfl⟩, fun b p o _ _ => ⟨by simp, rfl⟩⟩, fun j hj => ?_, fun j hj => ?_⟩
  ·have := xu hj nm (by simp)
   exact ⟨if_neg this, if_neg this⟩
  ·have := xu hj nm (by simp)
   exact ⟨hj, fun q => by injection q with q; exact this q, rfl⟩
 have hR := h.ev ev (Below.refl _ _) (fun b _ _ => rfl) (fun b _ hs => .inl hs) h.new h.own
 have hid : pOut [nm] id = true := by simp [pOut]; exact fun q => hne q.symm
 have hbx : (σ.sc (pOut [nm]) (pOut [nm])).b id = some (.box (row.map (scC (pOut [nm])))) := by
  show (if pOut [nm] id = true then (σ.b id).map (scO (pOut [nm])) else none) = _
  rw [if_pos hid, hb]; rfl
 obtain ⟨b, cs, ty, e1, e2, e3, e4, e5⟩ := hR.ob id _ hbx
 have hcl : c < row.length := (List.getElem?_eq_some_iff.1 hc).1
 refine ⟨g', (hR.setB (id := id) (o := .box ((row.map (scC (pOut [nm]))).set c (.bs nm k 0))) ⟨b, cs, ty, e1, e2, e3, by simpa using e4, fun j d hj => ?_⟩ (fun hp => hR.par id _ hbx hp)).setB (id := nm) ?_ (fun hp => by rw [hnP] at hp; cases hp)⟩
 ·rw [List.getElem?_set] at hj
  split at hj
  ·rename_i q; subst q
   rw [if_pos (by simpa using hcl)] at hj
   injection hj with hj; subst hj
   have h0 := e5 c .nil (by rw [List.getElem?_map, hc]; rfl)
   have h0 : Rep g'.S g'.up w (some (.cell b c)) .nil (cs.getD c undef) := h0
   generalize cs.getD c undef = v at h0
   cases h0
   have hβ : g'.β nm = none := if_pos rfl
   have hκ : g'.κ nm = 0 := if_pos rfl
   exact ⟨by rw [hβ, hκ]; rfl, Nat.zero_le _, by rw [hκ]; exact Nat.zero_le _, fun _ => hκ⟩
  ·exact e5 j d hj
 ·have hβ : g'.β nm = none := if_pos rfl
  have hκ : g'.κ nm = 0 := if_pos rfl
  show Rep g'.S g'.up w (some (.root nm)) (.osl e k []) (.slice ((g'.β nm).map fun b => ⟨b, 0, none⟩) 0 (g'.κ nm))
  rw [hβ, hκ]
  exact .osl0
theorem Wk_nil {M : Md} {N : Nat} {σ : St} (id c nm : Nat) {row : List D} (e k : Nat) (hb : σ.b id = some (.box row)) (hc : row[c]? = some .nil) (hne : nm ≠ id) (hnP : isP nm = false) : Wk M N σ (σ.nilE id row c nm e k) := fun x g a w _ _ hr => hr.nilE e k hb hc hne hnP
theorem zc {M : Md} {N : Nat} {pl : List (Nat × Plan)} {K : Exit -> St -> Prop} {σ : St} {cd : Code} (id c nm : Nat) {row : List D} (e k : Nat) (hb : σ.b id = some (.box row)) (hc : row[c]? = some .nil) (hne : nm ≠ id) (hnP : isP nm = false) (h : AC M N pl cd K (σ.nilE id row c nm e k)) : AC M N pl cd K σ := ug (Wk_nil id c nm e k hb hc hne hnP) h
theorem nilE_t (σ : St) (id : Nat) (row : List D) (c nm e k j : Nat) : (σ.nilE id row c nm e k).t j = scT (pOut [nm]) (σ.t j) := rfl
theorem nilE_b (σ : St) (id : Nat) (row : List D) (c nm e k j : Nat) : (σ.nilE id row c nm e k).b j = if j = nm then some (.arr e k []) else if j = id then some (.box ((row.map (scC (pOut [nm]))).set c (.bs nm k 0))) else if pOut [nm] j = true then (σ.b j).map (scO (pOut [nm])) else none := rfl
attribute [go_sem] nilE_t nilE_b
def bs (l : List UInt8) : ByteArray := ⟨l.toArray⟩
theorem Y8 (l : List UInt8) : (bs l).size = l.length := rfl
theorem bs_of (s : ByteArray) : bs s.data.toList = s := by cases s; rfl
def yL (b : UInt8) : Value := .int .u8 (b.toNat : Int)
theorem Vx {z : Int} (h0 : 0 <= z) (h1 : z < 256) : Value.int .u8 z = yL (UInt8.ofNat z.toNat) := by
 unfold yL
 rw [UInt8.toNat_ofNat']
 congr 1
 omega
theorem UZ (w : World) (vs : List Value) (e : TypeId) : ∀ j u, vs[j]? = some u -> (w.alloc (.cells vs.toArray e)).cell? ((⟨w.heap.size, 0, none⟩ : Addr).add j) = some u := by
 intro j u h
 rw [vL]
 simp only [World.cell?]
 have : (w.alloc (.cells vs.toArray e)).heap[w.heap.size]? = some (.cells vs.toArray e) := by show (w.heap.push _)[w.heap.size]? = _; simp
 rw [this]
 simpa using h
theorem info_u8 : (Tryz.prog.info? 5).map (fun i => (i.zero, i.size, i.bytes)) = some (some (.int .u8 0), 1, 1) := by kernel_rfl
def OwnB (w : World) (B : Nat) (v : Value) (out : List UInt8) : Prop := w.ownsRow B 5 1 v out.length (out.map yL)
theorem OwnB.alloc {w : World} {B : Nat} {v : Value} {out : List UInt8} (h : OwnB w B v out) (o : Obj) : OwnB (w.alloc o) B v out := World.ownsRow.alloc h o
theorem OwnB.drew {w : World} {B : Nat} {v : Value} {out : List UInt8} (h : OwnB w B v out) : OwnB w.drew B v out := h
theorem OwnB.kept {w w' : World} {B C : Nat} {v : Value} {out : List UInt8} (h : OwnB w B v out) (hb : Below C w w') (hc : w.heap.size <= C) : OwnB w' B v out := by
 obtain ⟨h1, h2⟩ := h
 refine ⟨h1, h2.imp id fun ⟨g, cap, cur, e, hg, hh, r⟩ => ⟨g, cap, cur, e, hg, ?_, r⟩⟩
 have : g < w.heap.size := by
  rcases Nat.lt_or_ge g w.heap.size with hl | hl
  ·exact hl
  ·rw [Array.getElem?_eq_none hl] at hh; cases hh
 rw [hb.block g (by omega)]; exact hh
theorem OwnB.len {w : World} {B : Nat} {v : Value} {out : List UInt8} (h : OwnB w B v out) : ∃ a c, v = .slice a out.length c := by
 obtain ⟨h1, ⟨e, h2⟩ | ⟨g, cap, cur, e, _⟩⟩ := h
 ·exact ⟨none, 0, by rw [e, h2]⟩
 ·exact ⟨_, _, e⟩
theorem OwnB.made (w : World) (B : Nat) (hB : B <= w.heap.size) (l : List UInt8) (hl : l.length <= maxLen) : OwnB (w.alloc (.cells (l.map yL).toArray 5)) B (.slice (some ⟨w.heap.size, 0, none⟩) l.length l.length) l := by
 refine ⟨by simp, .inr ⟨w.heap.size, l.length, (l.map yL).toArray, rfl, hB, ?_, Nat.le_refl _, hl, by simp, by simp [List.take_of_length_le]⟩⟩
 show (w.heap.push _)[w.heap.size]? = _
 simp
theorem app_u8 {ops : Array Oper} {rest : List Oper} {o : Oper} {a : Act} {Q : Exit -> Act -> World -> Prop} (w : World) (hgd : o.guard = none) (s x : Operand)
  (ho : o.op = .call { callee := .builtin .append, args := #[s, x], argTypes := #[36, 36] })
  (B : Nat) (v : Value) (out : List UInt8) (hs : a.eval s = v) (hown : OwnB w B v out)
  (ad : Addr) (m c : Nat) (news : List UInt8) (hx : a.eval x = .slice (some ad) m c) (hl : news.length = m)
  (hnews : ∀ j u, (news.map yL)[j]? = some u -> w.cell? (ad.add j) = some u)
  (hroom : out.length + m <= 140737488355328) (hbase : B <= w.heap.size)
  (h : ∀ v' w', OwnB w' B v' (out ++ news) -> w.grownBy w' v.ownBlock -> wpList Tryz.prog ops Q rest (a.put o.dst v') w') : wpList Tryz.prog ops Q (o :: rest) a w := by
 obtain ⟨i, hi, hz0, hz1, hz2⟩ := info_parts info_u8
 refine wpList_append_own w hgd s x 36 ho B 5 i (.int .u8 0) 1 1 Tryz.underlying36 hi hz0 hz1 hz2 rfl (by decide) v out.length (out.map yL) hs hown ad m c (news.map yL) hx (by simp [hl]) hnews ?_ (by unfold maxLen; omega) (by omega) hbase ?_
 ·intro u hu
  obtain ⟨b, _, rfl⟩ := List.mem_map.1 hu
  rfl
 ·intro v' w' h1 h2 _
  refine h v' w' ?_ h2
  unfold OwnB
  rw [List.length_append, hl, List.map_append]
  exact h1
theorem vk {w : World} {B : Nat} {v : Value} {out : List UInt8} (h : OwnB w B v out) :
  (Go.convert 36 9 v).run Tryz.prog w = .ok (.string (bs out)) w := by
 obtain ⟨h1, ⟨rfl, h2⟩ | ⟨g, cap, cur, rfl, hg, hh, hc, hm, hs, ht⟩⟩ := h
 ·have : out = [] := by simpa using h2
  subst this
  exact run_convert_bytes_nil w 36 5 Tryz.underlying36 Tryz.underlying5 0 0 9 Tryz.underlying9
 ·refine run_convert_bytes_back w 36 9 5 _ _ out Tryz.underlying36 Tryz.underlying5 Tryz.underlying9 (fun j hj => ?_)
  rw [vL]
  simp only [World.cell?, hh]
  rw [if_neg (by simp)]
  have e : cur.toList[j]? = (out.map yL)[j]? := by
   rw [<- ht, List.getElem?_take_of_lt (by omega)]
  rw [Nat.zero_add, <- Array.getElem?_toList, e, List.getElem?_map, List.getElem?_eq_getElem hj]
  rfl
theorem zf {ops : Array Oper} {rest : List Oper} {o : Oper} {a : Act} {Q : Exit -> Act -> World -> Prop} (w : World) (hgd : o.guard = none) (s x : Operand)
  (ho : o.op = .call { callee := .builtin .append, args := #[s, x], argTypes := #[36, 36] })
  (B : Nat) (v : Value) (out : List UInt8) (hs : a.eval s = v) (hown : OwnB w B v out)
  (vals : List Value) (hx : a.eval x = .slice (some ⟨w.heap.size, 0, none⟩) vals.length vals.length) (news : List UInt8) (hn : vals = news.map yL)
  (hroom : out.length + vals.length <= 140737488355328) (hbase : B <= w.heap.size)
  (h : ∀ v' w', OwnB w' B v' (out ++ news) -> Below B w w' -> wpList Tryz.prog ops Q rest (a.put o.dst v') w') :
  wpList Tryz.prog ops Q (o :: rest) a (w.alloc (.cells vals.toArray 5)) := by
 subst hn
 refine app_u8 _ hgd s x ho B v out hs (hown.alloc _) ⟨w.heap.size, 0, none⟩ _ _ news hx (by simp) (UZ w _ _) hroom ?_ ?_
 ·have : (w.alloc (.cells (news.map yL).toArray 5)).heap.size = w.heap.size + 1 := by simp
  omega
 ·intro v' w' h1 h2
  refine h v' w' h1 (((Below.refl B w).alloc hbase _).grown h2 (by simp; omega) ?_)
  intro k hk
  exact (World.ownsRow.lt hown k hk).1
theorem Zx (z : Int) (d : UInt8) (hz : Value.int .u8 z = yL d) (W : World) (b : Nat) (hc : W.cell? ⟨b, 0, none⟩ = some (.int .u8 z)) :
  (Go.convert 36 9 (.slice (some ⟨b, 0, none⟩) 1 1)).run Tryz.prog W = .ok (.string (bs [d])) W := by
 refine run_convert_bytes_back W 36 9 5 _ _ [d] Tryz.underlying36 Tryz.underlying5 Tryz.underlying9 (fun j hj => ?_)
 obtain rfl : j = 0 := by simpa using hj
 rw [vL]
 exact hc.trans (congrArg some hz)
theorem WX {ops : Array Oper} {o : Oper} {a : Act} {K : Act -> World -> Prop} {Q : Exit -> Act -> World -> Prop} {E : Prop} (w : World) (hgd : o.guard = none) (s x : Operand)
  (ho : o.op = .call { callee := .builtin .append, args := #[s, x], argTypes := #[36, 36] })
  (B : Nat) (v : Value) (out : List UInt8) (hs : a.eval s = v) (hown : OwnB w B v out)
  (vals : List Value) (hx : a.eval x = .slice (some ⟨w.heap.size, 0, none⟩) vals.length vals.length) (news : List UInt8) (hn : vals = news.map yL)
  (hroom : out.length + vals.length <= 140737488355328) (hbase : B <= w.heap.size)
  (h : ∀ v' w', OwnB w' B v' (out ++ news) -> Below B w w' -> K (a.put o.dst v') w') :
  if Region.wanted o (yielded ops a.tmps) = true then Oper.wp Tryz.prog o a (w.alloc (.cells vals.toArray 5)) K Q else E := by
 rw [if_pos (by simp [Region.wanted, hgd])]
 subst hn
 obtain ⟨i, hi, hz0, hz1, hz2⟩ := info_parts info_u8
 refine wp_append_own _ s x 36 ho B 5 i (.int .u8 0) 1 1 Tryz.underlying36 hi hz0 hz1 hz2 rfl (by decide) v out.length (out.map yL) hs (World.ownsRow.alloc hown _) ⟨w.heap.size, 0, none⟩ _ _ (news.map yL) hx (by simp) (UZ w _ _) ?_ ?_ ?_ ?_ ?_
 ·intro u hu
  obtain ⟨b, _, rfl⟩ := List.mem_map.1 hu
  rfl
 ·unfold maxLen; omega
 ·omega
 ·have : (w.alloc (.cells (news.map yL).toArray 5)).heap.size = w.heap.size + 1 := by simp
  omega
 ·intro v' w' h1 h2 _
  refine h v' w' ?_ (((Below.refl B w).alloc hbase _).grown h2 (by simp; omega) ?_)
  ·unfold OwnB
   rw [List.length_append, List.map_append]
   rw [List.length_map] at h1
   exact h1
  ·intro k hk
   exact (World.ownsRow.lt hown k hk).1
end Go.Proofs.YtgcdbmcoendcdaaGreat
namespace Go.Proofs.YtgcdbmcoendcdaaGreat
def dgt (d : Nat) : UInt8 := UInt8.ofNat (48 + d)
theorem XD {d : Nat} (h : d < 10) : (dgt d).toNat = 48 + d := by
 unfold dgt; rw [UInt8.toNat_ofNat']; omega
def decL (n : Nat) : List UInt8 := if n < 10 then [dgt n] else decL (n / 10) ++ [dgt (n % 10)]
theorem uB {n : Nat} (h : n < 10) : decL n = [dgt n] := by rw [decL, if_pos h]
theorem XX {n : Nat} (h : ¬ n < 10) : decL n = decL (n / 10) ++ [dgt (n % 10)] := by rw [decL, if_neg h]
theorem XY : ∀ (k n : Nat), n < 10 ^ (k + 1) -> (decL n).length <= k + 1
 | 0, n, h => by rw [uB (by simpa using h)]; simp
 | k + 1, n, h => by
  by_cases h' : n < 10
  ·rw [uB h']; simp
  ·rw [XX h', List.length_append]
   have := XY k (n / 10) (by rw [Nat.pow_succ] at h; omega)
   simp; omega
def numT (n : Int) : List UInt8 :=
 if -4611686018427387904 <= n /\ n <= 4611686018427387903 then (if n < 0 then 45 :: decL n.natAbs else decL n.natAbs) else []
theorem VY {n : Int} (h : ¬ (-4611686018427387904 <= n /\ n <= 4611686018427387903)) : numT n = [] := by rw [numT, if_neg h]
theorem numT_neg {n : Int} (h : -4611686018427387904 <= n) (h0 : n < 0) : numT n = 45 :: decL (-n).toNat := by
 rw [numT, if_pos ⟨h, by omega⟩, if_pos h0]; congr 2; omega
theorem numT_pos {n : Int} (h : n <= 4611686018427387903) (h0 : ¬ n < 0) : numT n = decL n.toNat := by
 rw [numT, if_pos ⟨by omega, h⟩, if_neg h0]; congr 1; omega
theorem VX (n : Int) : (numT n).length <= 20 := by
 unfold numT
 split
 ·have := XY 18 n.natAbs (by omega)
  split <;> simp <;> omega
 ·simp
end Go.Proofs.YtgcdbmcoendcdaaGreat
namespace Go.Proofs.YtgcdbmcoendcdaaGreat
open Go.RowKit
theorem YX (w : World) (n : Int) : Calls Tryz.prog 250 #[.int .i64 n] w fun e w' => e = .returned (.int .i64 (wrap63 n)) /\ w = w' := by
 go_enter Tryz.func250, Tryz.ntmps250
 go_wp2
 go_ret
 exact ⟨rfl, rfl⟩
theorem ret_i {a b : Int} (h : a = b) : Ending.returned (.int .i64 a) = .returned (.int .i64 b) := by rw [h]
theorem ret_ib {a b : Int} {x : Bool} (h : a = b) : Ending.returned (.tuple #[.int .i64 a, .bool x]) = .returned (.tuple #[.int .i64 b, .bool x]) := by rw [h]
theorem ret_s {a b : List UInt8} (h : a = b) : Ending.returned (.string (bs a)) = .returned (.string (bs b)) := by rw [h]
theorem dgtV {d : Nat} (h : d < 10) : Value.int .u8 (48 + (d : Int)) = yL (dgt d) := by
 unfold yL; rw [XD h]; simp
theorem str_app (l m : List UInt8) : (bs l ++ bs m) = bs (l ++ m) := by
 apply Ux
 show ((bs l).append (bs m)).data.toList = _
 simp [bs, ByteArray.append]
theorem XL : ∀ (k : Nat) (w : World) (n : Int), n <= 0 -> -(10 : Int) ^ (k + 1) < n -> -9223372036854775808 <= n ->
  Calls Tryz.prog 257 #[.int .i64 n] w fun e w' => e = .returned (.string (bs (decL (-n).toNat))) /\ Below w.heap.size w w' := by
 have small : ∀ (w : World) (n : Int), n <= 0 -> -10 < n -> Calls Tryz.prog 257 #[.int .i64 n] w fun e w' => e = .returned (.string (bs (decL (-n).toNat))) /\ Below w.heap.size w w' := by
  intro w n h0 h1
  have hv : Value.int .u8 (48 - n) = yL (dgt (-n).toNat) := by
   rw [<- dgtV (by omega)]; congr 1; omega
  have hcv := Zx (48 - n) _ hv
  have HN := Lib.hid (uB (n := (-n).toNat) (by omega))
  clear hv
  go_enter Tryz.func257, Tryz.ntmps257
  go_wp2
  go_ret
  exact ⟨ret_s HN.out.symm, (Below.refl _ _).alloc (Nat.le_refl _) _⟩
 intro k
 induction k with
 | zero => intro w n h0 h1 _; exact small w n h0 (by simpa using h1)
 | succ k ih =>
  intro w n h0 h1 hlo
  by_cases hs : -10 < n
  ·exact small w n h0 hs
  ·have hp : (10 : Int) ^ (k + 1 + 1) = 10 ^ (k + 1) * 10 := Int.pow_succ _ _
   have hq : n.tdiv 10 = -((-n) / 10) := by
    rw [show n = -(-n) from by omega, Int.neg_tdiv, Int.tdiv_eq_ediv_of_nonneg (by omega)]; simp
   have hm : n.tmod 10 = -((-n) % 10) := by
    rw [show n = -(-n) from by omega, Int.neg_tmod, Int.tmod_eq_emod_of_nonneg (by omega)]; simp
   have q1 : n.tdiv 10 <= 0 := by omega
   have q2 : -(10 : Int) ^ (k + 1) < n.tdiv 10 := by omega
   have q3 : -9223372036854775808 <= n.tdiv 10 := by omega
   have r1 : -10 < n.tmod 10 := by omega
   have r2 : n.tmod 10 <= 0 := by omega
   have hv : Value.int .u8 (48 - n.tmod 10) = yL (dgt ((-n).toNat % 10)) := by
    rw [<- dgtV (by omega)]; congr 1; omega
   have hcv := Zx (48 - n.tmod 10) _ hv
   have HN := Lib.hid (XX (n := (-n).toNat) (by omega))
   have HQ := Lib.hid (show (-(n.tdiv 10)).toNat = (-n).toNat / 10 by omega)
   have ih' := Lib.hid ih
   clear hv ih hp hq hm
   have z1 : (bs (decL (-n.tdiv 10).toNat)).size <= 19 := by rw [Y8]; exact XY 18 _ (by omega)
   have z2 : (bs [dgt ((-n).toNat % 10)]).size <= 1 := by rw [Y8]; simp
   have z3 : ¬ 9223372036854775807 < (bs (decL (-n.tdiv 10).toNat)).size + (bs [dgt ((-n).toNat % 10)]).size := by omega
   have e1 : IntKind.i64.wrap (n.tdiv 10) = n.tdiv 10 := IntWalk.i64_in _ (by omega)
   have e2 : IntKind.i64.wrap (48 - n.tmod 10) = 48 - n.tmod 10 := IntWalk.i64_in _ (by omega)
   have e3 : IntKind.u8.wrap (48 - n.tmod 10) = 48 - n.tmod 10 := IntWalk.u8_in _ (by omega)
   go_enter Tryz.func257, Tryz.ntmps257
   go_wp2_with fail
   go_region_with (go_at_call 257; refine (ih'.out _ _ q1 q2 q3).mono ?_; rintro e w1 ⟨rfl, hb1⟩; first | (have hc1 : w1.cell? ⟨w.heap.size, 0, none⟩ = some (.int .u8 (48 - n.tmod 10)) := we hb1 (vh w.drew _ _)) | skip)
   all_goals
    go_wp2
    go_ret
    refine ⟨congrArg (fun s => Ending.returned (.string s)) ((str_app _ _).trans (congrArg bs (by rw [HN.out, HQ.out]))), ?_⟩
   ·exact ((Below.refl _ _).drew.trans hb1).alloc hb1.size _
   ·exact (((Below.refl _ _).drew.alloc (Nat.le_refl _) _).trans (hb1.mono (by simp)))
   ·exact (((Below.refl _ _).drew.alloc (Nat.le_refl _) _).trans (hb1.mono (by simp)))
theorem uK (w : World) (n : Int) (hlo : -9223372036854775808 <= n) (hhi : n <= 9223372036854775807) : Calls Tryz.prog 237 #[.int .i64 n] w fun e w' => e = .returned (.string (bs (numT n))) /\ Below w.heap.size w w' := by
 by_cases hin : -4611686018427387904 <= n /\ n <= 4611686018427387903
 ·have ht : (wrap63 n != n) = false := by rw [Q1 hin.1 hin.2]; simp
  obtain ⟨h1, h2⟩ := hin
  by_cases hn : n < 0
  ·have HN := Lib.hid (numT_neg h1 hn)
   have hsz : (bs (decL (-n).toNat)).size <= 19 := by rw [Y8]; exact XY 18 _ (by omega)
   go_enter Tryz.func237, Tryz.ntmps237
   go_wp2_with (first | (go_at_call 250; refine (YX _ _).mono ?_; rintro e w' ⟨rfl, rfl⟩) | (go_at_call 257; refine (XL 18 _ _ (by omega) (by omega) (by omega)).mono ?_; rintro e w1 ⟨rfl, hb1⟩))
   go_ret
   exact ⟨congrArg (fun s => Ending.returned (.string s)) ((str_app [45] _).trans (congrArg bs HN.out.symm)), hb1⟩
  ·have HN := Lib.hid (numT_pos h2 hn)
   go_enter Tryz.func237, Tryz.ntmps237
   go_wp2_with (first | (go_at_call 250; refine (YX _ _).mono ?_; rintro e w' ⟨rfl, rfl⟩) | (go_at_call 257; refine (XL 18 _ _ (by omega) (by omega) (by omega)).mono ?_; rintro e w1 ⟨rfl, hb1⟩))
   go_ret
   exact ⟨ret_s HN.out.symm, hb1⟩
 ·have ht : (wrap63 n != n) = true := by
   have := Y2 n
   rw [bne_iff_ne]; omega
  have HN := Lib.hid (VY hin)
  go_enter Tryz.func237, Tryz.ntmps237
  go_wp2_with (first | (go_at_call 250; refine (YX _ _).mono ?_; rintro e w' ⟨rfl, rfl⟩))
  go_ret
  exact ⟨ret_s HN.out.symm, Below.refl _ _⟩
end Go.Proofs.YtgcdbmcoendcdaaGreat
namespace Go.Proofs.YtgcdbmcoendcdaaGreat
structure TyI where
 v : Int
 name : ByteArray
 ar : Int
def TyI.ok (x : TyI) : Prop := I64 x.v /\ x.name.size <= maxLen /\ I64 x.ar
def yv (x : TyI) : Bool :=
 if x.name.toList.isEmpty then decide (0 <= x.v) && decide (x.v <= 9999) && (x.ar == 0)
 else (x.v == 0) && (if x.name.toList == [45, 62] || x.name.toList == [42] then x.ar == 2 else if x.name.toList == [114, 101, 102] then x.ar == 1 else yl x.name && decide (0 <= x.ar) && decide (x.ar <= 2))
theorem VQ {x : TyI} (h : yv x = true) : 0 <= x.ar /\ x.ar <= 2 := by
 unfold yv at h
 split at h
 ·simp only [Bool.and_eq_true, decide_eq_true_eq, beq_iff_eq] at h; omega
 ·split at h
  ·simp only [Bool.and_eq_true, decide_eq_true_eq, beq_iff_eq] at h; omega
  ·split at h <;> simp only [Bool.and_eq_true, decide_eq_true_eq, beq_iff_eq] at h <;> omega
def scan : List Nat -> Nat -> Option Nat
 | _, 0 => some 0
 | [], _ + 1 => none
 | a :: l, m + 1 => (scan l (m + a)).map (· + 1)
theorem YW (l : List Nat) : scan l 0 = some 0 := by cases l <;> rfl
theorem scan_le : ∀ (l : List Nat) (m k : Nat), scan l m = some k -> k <= l.length
 | l, 0, k, h => by rw [YW] at h; cases h; exact Nat.zero_le _
 | [], m + 1, k, h => by cases h
 | a :: l, m + 1, k, h => by
  rw [scan] at h
  cases e : scan l (m + a) with
  | none => rw [e] at h; cases h
  | some j =>
   rw [e] at h
   have := scan_le l _ _ e
   have h2 : j + 1 = k := by simpa using h
   simp only [List.length_cons]
   omega
theorem Wc : ∀ (l : List Nat) (m n : Nat), scan l (m + n) = (scan l m).bind fun k => (scan (l.drop k) n).map (· + k)
 | l, 0, n => by rw [YW, Nat.zero_add]; simp
 | [], m + 1, n => by rw [show m + 1 + n = m + n + 1 by omega]; rfl
 | a :: l, m + 1, n => by
  rw [show m + 1 + n = m + n + 1 by omega, scan, scan, show m + n + a = (m + a) + n by omega, Wc l (m + a) n]
  cases scan l (m + a) with
  | none => rfl
  | some k =>
   simp only [Option.bind_some, Option.map_some, List.drop_succ_cons]
   cases scan (l.drop k) n with
   | none => rfl
   | some j => simp; omega
def arsM (xs : List TyI) : List Nat := xs.map fun x => x.ar.toNat
def endM (xs : List TyI) (k : Nat) : Int := match scan ((arsM xs).drop k) 1 with
 | some j => ((k + j : Nat) : Int)
 | none => -1
def yT (xs : List TyI) (k i : Nat) : Int := match scan ((arsM xs).drop k) i with
 | some j => ((k + j : Nat) : Int)
 | none => -1
theorem WI (xs : List TyI) (k : Nat) : yT xs k 0 = k := by unfold yT; rw [YW]; rfl
theorem endM_ends (xs : List TyI) (k : Nat) : endM xs k = yT xs k 1 := rfl
theorem Uw (xs : List TyI) (k : Nat) (h : k < xs.length) : (arsM xs).drop k = xs[k].ar.toNat :: (arsM xs).drop (k + 1) := by
 have hl : k < (arsM xs).length := by unfold arsM; simpa using h
 rw [List.drop_eq_getElem_cons hl]
 congr 1
 exact List.getElem_map _
theorem UN (xs : List TyI) (k : Nat) (h : k < xs.length) : endM xs k = yT xs (k + 1) xs[k].ar.toNat := by
 unfold endM yT
 rw [Uw xs k h, scan, Nat.zero_add]
 cases scan ((arsM xs).drop (k + 1)) xs[k].ar.toNat with
 | none => rfl
 | some j => simp only [Option.map_some]; congr 1; omega
theorem endM_end (xs : List TyI) (k : Nat) (h : xs.length <= k) : endM xs k = -1 := by
 unfold endM
 rw [List.drop_eq_nil_of_le (by unfold arsM; simpa using h)]
 rfl
theorem endsM_neg (xs : List TyI) (k i : Nat) (h : yT xs k i < 0) : ∀ j, i <= j -> yT xs k j = -1 := by
 intro j hj
 unfold yT at h ⊢
 cases e : scan ((arsM xs).drop k) i with
 | some q => rw [e] at h; simp only at h; omega
 | none =>
  rw [show j = i + (j - i) by omega, Wc, e]
  rfl
theorem xao (xs : List TyI) (k i : Nat) (n : Nat) (h : yT xs k i = n) : yT xs k (i + 1) = endM xs n := by
 unfold yT at h
 cases e : scan ((arsM xs).drop k) i with
 | none => rw [e] at h; simp only at h; omega
 | some q =>
  rw [e] at h
  simp only at h
  obtain rfl : n = k + q := by omega
  unfold yT endM
  rw [Wc, e, Option.bind_some, List.drop_drop]
  cases scan ((arsM xs).drop (k + q)) 1 with
  | none => rfl
  | some j => simp only [Option.map_some]; congr 1; omega
theorem endsM_bd (xs : List TyI) (k i : Nat) (hk : k <= xs.length) : yT xs k i = -1 \/ ∃ n : Nat, yT xs k i = n /\ k <= n /\ n <= xs.length := by
 unfold yT
 cases e : scan ((arsM xs).drop k) i with
 | none => exact .inl rfl
 | some q =>
  refine .inr ⟨k + q, rfl, by omega, ?_⟩
  have := scan_le _ _ _ e
  have hl : ((arsM xs).drop k).length = xs.length - k := by unfold arsM; simp
  omega
def zQ (xs : List TyI) : Bool := xs.all yv && decide (endM xs 0 = xs.length)
def wZ (xs : List TyI) : Bool := decide (xs.length <= 200) && zQ xs
def wN (xs : List TyI) (k m : Nat) : Bool := (xs.drop k).all yv && decide (yT xs k m = xs.length)
theorem QS (xs : List TyI) : wN xs 0 1 = zQ xs := by unfold wN zQ; rw [endM_ends]; rfl
theorem xaP (xs : List TyI) (k : Nat) (h : k < xs.length) : wN xs k 0 = false := by
 unfold wN
 rw [WI, decide_eq_false (by omega), Bool.and_false]
theorem restM_bad (xs : List TyI) (k m : Nat) (h : k < xs.length) (hb : yv xs[k] = false) : wN xs k m = false := by
 unfold wN
 rw [List.drop_eq_getElem_cons h, List.all_cons, hb]; rfl
theorem xaO (xs : List TyI) (k m : Nat) (h : k < xs.length) (hb : yv xs[k] = true) : wN xs k (m + 1) = wN xs (k + 1) (m + xs[k].ar.toNat) := by
 unfold wN
 rw [List.drop_eq_getElem_cons h, List.all_cons, hb, Bool.true_and]
 congr 1
 have : yT xs k (m + 1) = yT xs (k + 1) (m + xs[k].ar.toNat) := by
  unfold yT
  rw [Uw xs k h, scan]
  cases scan ((arsM xs).drop (k + 1)) (m + xs[k].ar.toNat) with
  | none => rfl
  | some j => simp only [Option.map_some]; congr 1; omega
 rw [this]
theorem restM_end (xs : List TyI) (k m : Nat) (h : k = xs.length) : wN xs k m = decide (m = 0) := by
 subst h
 unfold wN yT
 rw [List.drop_eq_nil_of_le (Nat.le_refl _), List.drop_eq_nil_of_le (by unfold arsM; simp)]
 cases m with
 | zero => simp [scan]
 | succ m => simp [scan]
end Go.Proofs.YtgcdbmcoendcdaaGreat
namespace Go.Proofs.YtgcdbmcoendcdaaGreat
open Go.RowKit
def iE (n : Int) : List D := [.s (.int .i64 n)]
theorem xQ (n : Int) : iE n = [.s (.int .i64 n)] := rfl
abbrev yX (l : List Int) : D := .sl 1 (l.map iE)
def partR {α : Type} (f : α -> List D) (z : List D) (xs : List α) (i : Nat) : List (List D) := (xs.take i).map f ++ List.replicate (xs.length - i) z
section
variable {α : Type} {f : α -> List D} {z : List D} {xs : List α} {i : Nat}
theorem ye {g : α -> List D} (h : ∀ x, frzL (f x) = g x) (xs : List α) : xJ (xs.map f) = xs.map g := by
 rw [yJ, List.map_map]; exact List.map_congr_left fun x _ => h x
end
theorem takeL {α : Type} {l : List α} {i : Nat} (h : l.length = i) : l.take i = l := List.take_of_length_le (by omega)
theorem UP (a b : List (List D)) : xJ (a ++ b) = xJ a ++ xJ b := by rw [yJ, yJ, yJ, List.map_append]
theorem frzLL_nil : xJ [] = [] := rfl
theorem vz (r : List D) (l : List (List D)) : xJ (r :: l) = frzL r :: xJ l := rfl
def smS {α : Type} (s : α -> Prop) (xs : List α) : Prop := xs.length <= 1048576 /\ ∀ x ∈ xs, s x
theorem yp {a b : Int} (h : a = b) : D.s (.int .i64 a) = .s (.int .i64 b) := by rw [h]
attribute [go_sem] takeL UP frzLL_nil vz Nat.le_refl
end Go.Proofs.YtgcdbmcoendcdaaGreat
namespace Go.Proofs.YtgcdbmcoendcdaaGreat
attribute [local go_sem] List.length_set List.set_set
open Go.RowKit Go.ChangeShapes Go.WideShapes
theorem WP (x : Int) : frzL (iE x) = iE x := rfl
theorem Ub (x : Int) : ∀ d ∈ iE x, Pure d := by
 simp only [xQ, List.forall_mem_cons, List.not_mem_nil, false_imp_iff, implies_true, and_true]
 exact .s _
theorem iE_pureS (e k : Nat) (xs : List Int) : Pure (.osl e k (xs.map iE)) = True := eq_true (yr Ub e k xs)
attribute [go_sem] iE_pureS
theorem iE_frzS (xs : List Int) : xJ (xs.map iE) = xs.map iE := ye WP xs
attribute [go_sem] iE_frzS
end Go.Proofs.YtgcdbmcoendcdaaGreat
namespace Go.Proofs.YtgcdbmcoendcdaaGreat
attribute [local go_sem] List.length_set List.set_set
open Go.RowKit Go.ChangeShapes Go.WideShapes
def TyI.enc (x : TyI) : List D := [.s (.int .i64 x.v), .s (.string x.name), .s (.int .i64 x.ar)]
theorem TyI.enc_eq (x : TyI) : x.enc = [.s (.int .i64 x.v), .s (.string x.name), .s (.int .i64 x.ar)] := rfl
abbrev TyI.own (x : TyI) : List D := x.enc
theorem TyI.own_eq (x : TyI) : x.own = [.s (.int .i64 x.v), .s (.string x.name), .s (.int .i64 x.ar)] := rfl
theorem TyI.frz_eq (x : TyI) : frzL x.own = x.enc := by
 simp only [TyI.own_eq, TyI.enc_eq, frzL, frz]
def TyI.sm (x : TyI) : Prop := x.name.size <= 1048576
theorem TyI.pure (x : TyI) : ∀ d ∈ x.own, Pure d := by
 simp only [TyI.own_eq, List.forall_mem_cons, List.not_mem_nil, false_imp_iff, implies_true, and_true]
 exact ⟨.s _, .s _, .s _⟩
theorem TyI.pureS (e k : Nat) (xs : List TyI) : Pure (.osl e k (xs.map TyI.own)) = True := eq_true (yr TyI.pure e k xs)
attribute [go_sem] TyI.pureS
theorem TyI.frzS (xs : List TyI) : xJ (xs.map TyI.own) = xs.map TyI.enc := ye TyI.frz_eq xs
attribute [go_sem] TyI.frzS
end Go.Proofs.YtgcdbmcoendcdaaGreat
namespace Go.Proofs.YtgcdbmcoendcdaaGreat
open Go.RowKit Go.ChangeShapes Go.WideShapes
structure MTy where
 items : List TyI
def MTy.enc (x : MTy) : List D := [.sl 3 (x.items.map TyI.enc)]
theorem MTy.enc_eq (x : MTy) : x.enc = [.sl 3 (x.items.map TyI.enc)] := rfl
end Go.Proofs.YtgcdbmcoendcdaaGreat
namespace Go.Proofs.YtgcdbmcoendcdaaGreat
open Go.RowKit
end Go.Proofs.YtgcdbmcoendcdaaGreat
namespace Go.Proofs.YtgcdbmcoendcdaaGreat
open Go.RowKit Go.ChangeShapes Go.WideShapes
structure OnlyP (ty : TypeId) (p : Nat) (cs : Array Value) (w w' : World) : Prop where
 os : w'.os = w.os
 tape : w'.tape = w.tape
 output : w'.output = w.output
 size : w.heap.size <= w'.heap.size
 other : ∀ b, b < w.heap.size -> b ≠ p -> w'.heap[b]? = w.heap[b]?
 at_p : w'.heap[p]? = some (.cells cs ty (0, 0))
def curH (h : Int) : Int := wrap64 (wrap64 (h * 6364136223846793005) + 1442695040888963407)
def curX (H : Int) : Int := bits BinOp.and IntKind.i64 (bits BinOp.xor IntKind.i64 (H / 8589934592) (H / 35184372088832)) 255
def curY (H z : Int) : Int := bits BinOp.and IntKind.i64 (wrap64 (curX H + z)) 255
theorem Yo (x : Int) : bits BinOp.and IntKind.i64 x 255 = x % 256 := by
 have h1 : (BitVec.ofInt 64 x &&& BitVec.ofInt 64 255).toNat = (x % 256).toNat := by
  rw [BitVec.toNat_and]
  have e1 : (BitVec.ofInt 64 (255 : Int)).toNat = 2 ^ 8 - 1 := by decide
  rw [e1, Nat.and_two_pow_sub_one_eq_mod, BitVec.toNat_ofInt]
  omega
 have e : bits BinOp.and IntKind.i64 x 255 = IntKind.i64.wrap ((BitVec.ofInt 64 x &&& BitVec.ofInt 64 255).toNat : Int) := rfl
 rw [e, h1, IntWalk.i64_in _ (by omega)]
 omega
theorem curX_bd (H : Int) : 0 <= curX H /\ curX H <= 255 := by unfold curX; rw [Yo]; omega
theorem curY_bd (H z : Int) : 0 <= curY H z /\ curY H z <= 255 := by unfold curY; rw [Yo]; omega
theorem ZQ {w : World} {p j : Nat} {c : Array Value} {e : TypeId} {f : Nat × Nat} (h : w.heap[p]? = some (.cells c e f)) (u : Value) : (w.setCell ⟨p, j, none⟩ u).heap[p]? = some (.cells (c.setIfInBounds j u) e f) := by
 simp [World.setCell, Array.getElem?_modify, h]
theorem heap_set1 {w : World} {p : Nat} {a b c : Value} {e : TypeId} {f : Nat × Nat} (h : w.heap[p]? = some (.cells #[a, b, c] e f)) (u : Value) (n : Nat) : ((w.setCell ⟨p, 2, none⟩ u).drewN n).heap[p]? = some (.cells #[a, b, u] e f) :=
 ZQ (j := 2) h u
theorem heap_set2 {w : World} {p : Nat} {a b c : Value} {e : TypeId} {f : Nat × Nat} (h : w.heap[p]? = some (.cells #[a, b, c] e f)) (u v : Value) (n : Nat) : (((w.setCell ⟨p, 2, none⟩ u).drewN n).setCell ⟨p, 1, none⟩ v).heap[p]? = some (.cells #[a, v, u] e f) :=
 ZQ (j := 1) (heap_set1 h u n) v
theorem YQ (w : World) (p j : Nat) (u : Value) (b : Nat) (h : b ≠ p) : (w.setCell ⟨p, j, none⟩ u).heap[b]? = w.heap[b]? := Below.heap_setCell _ _ _ _ (by simpa using h)
theorem VS (w : World) (ty : TypeId) (p b off n c k : Nat) (hh z : Int) (hp : w.heap[p]? = some (.cells #[.slice (some ⟨b, off, none⟩) n c, .int .i64 k, .int .i64 hh] ty (0, 0))) (hn : n <= maxLen) (hk : k < n) (hz : w.cell? ⟨b, off + k, none⟩ = some (.int .u8 z)) (hbp : b ≠ p) (z0 : 0 <= z) (z1 : z < 256) :
  Calls Tryz.prog 126 #[.pointer (some ⟨p, 0, none⟩)] w fun e w' => e = .returned (.int .i64 (curY (curH hh) z)) /\ OnlyP ty p #[.slice (some ⟨b, off, none⟩) n c, .int .i64 (k + 1), .int .i64 (curH hh)] w w' := by
 unfold maxLen at hn
 have c0 : w.cell? ⟨p, 0, none⟩ = some (.slice (some ⟨b, off, none⟩) n c) := by simp [World.cell?, hp]
 have c1 : w.cell? ⟨p, 1, none⟩ = some (.int .i64 k) := by simp [World.cell?, hp]
 have c2 : w.cell? ⟨p, 2, none⟩ = some (.int .i64 hh) := by simp [World.cell?, hp]
 have f1 : w.frozen? ⟨p, 1, none⟩ = false := by simp [World.frozen?, hp]
 have f2 : w.frozen? ⟨p, 2, none⟩ = false := by simp [World.frozen?, hp]
 have hbp' : ¬ p = b := fun e => hbp e.symm
 have hk1 : (k : Int) < n := by omega
 have HC := Lib.hid hp
 clear hp
 go_enter Tryz.func126, Tryz.ntmps126
 go_wp2
 go_quiet (fail)
 go_wp2
 go_quiet (fail)
 go_wp2
 go_quiet (fail)
 go_wp2
 go_ret
 refine ⟨rfl, ⟨rfl, rfl, rfl, by simp [World.setCell, World.drewN], fun b' hb' hne => ?_, heap_set2 HC.out _ _ _⟩⟩
 rw [YQ _ _ _ _ _ hne]
 exact YQ _ _ _ _ _ hne
theorem YK (w : World) (ty : TypeId) (p n c k : Nat) (a : Option Addr) (hh : Int) (hp : w.heap[p]? = some (.cells #[.slice a n c, .int .i64 k, .int .i64 hh] ty (0, 0))) (hn : n <= maxLen) (hk : n <= k) :
  Calls Tryz.prog 126 #[.pointer (some ⟨p, 0, none⟩)] w fun e w' => e = .returned (.int .i64 (curX (curH hh))) /\ OnlyP ty p #[.slice a n c, .int .i64 k, .int .i64 (curH hh)] w w' := by
 unfold maxLen at hn
 have c0 : w.cell? ⟨p, 0, none⟩ = some (.slice a n c) := by simp [World.cell?, hp]
 have c1 : w.cell? ⟨p, 1, none⟩ = some (.int .i64 k) := by simp [World.cell?, hp]
 have c2 : w.cell? ⟨p, 2, none⟩ = some (.int .i64 hh) := by simp [World.cell?, hp]
 have f1 : w.frozen? ⟨p, 1, none⟩ = false := by simp [World.frozen?, hp]
 have f2 : w.frozen? ⟨p, 2, none⟩ = false := by simp [World.frozen?, hp]
 have hk1 : (n : Int) <= (k : Int) := by omega
 have HC := Lib.hid hp
 clear hp
 go_enter Tryz.func126, Tryz.ntmps126
 go_wp2
 go_quiet (fail)
 go_wp2
 go_quiet (fail)
 go_wp2
 go_ret
 refine ⟨rfl, ⟨rfl, rfl, rfl, by simp [World.setCell, World.drewN], fun b' hb' hne => ?_, ZQ (j := 2) HC.out _⟩⟩
 exact YQ _ _ _ _ _ hne
def u8E (z : UInt8) : List D := [.s (.int .u8 z.toNat)]
theorem u8E_eq (z : UInt8) : u8E z = [.s (.int .u8 z.toNat)] := rfl
abbrev curD (zs : List UInt8) (k : Nat) (h : Int) : D := .opt [.sl 1 (zs.map u8E), .s (.int .i64 k), .s (.int .i64 h)]
def bytM (zs : List UInt8) (k : Nat) (h : Int) : Int := match zs[k]? with
 | some z => curY (curH h) z.toNat
 | none => curX (curH h)
def stepK (zs : List UInt8) (k : Nat) : Nat := if k < zs.length then k + 1 else k
theorem bytM_bd (zs : List UInt8) (k : Nat) (h : Int) : 0 <= bytM zs k h /\ bytM zs k h <= 255 := by
 unfold bytM; split
 ·exact curY_bd _ _
 ·exact curX_bd _
theorem c_l01Byte (zs : List UInt8) (k : Nat) (h : Int) : FCon Tryz.prog 126 [curD zs k h] (fun r o => r = .s (.int .i64 (bytM zs k h)) /\ o = [curD zs (stepK zs k) (curH h)]) := by
 refine ⟨fun vs w => ?_, fun w g vs hS hu hlen hv => ?_⟩
 ·have h1 := Tryz.func126
  have hname' : ¬ Tryz.f126.name = "runtime.NumGoroutine" := by decide
  have hbn : ¬ Tryz.f126.body = none := by decide
  simp [callFunc, h1, hname', hbn]
 ·obtain ⟨v, rfl, h0⟩ := XH (P := fun j d u => RA g w j d u) hlen hv
  have h0 : Rep g.S g.up w (some (.par 0 0)) (curD zs k h) v := h0
  cases h0 with
  | @opt _ _ p ty cs k1 k2 k3 k4 =>
   have hsz : p < w.heap.size := (hu p _ k1).1
   have hnS : ¬ g.S p := (hu p _ k1).2
   have r0 := k4 0 _ rfl
   have r1 := Rep.s_inv (k4 1 _ rfl)
   have r2 := Rep.s_inv (k4 2 _ rfl)
   generalize hsv : cs.getD 0 undef = sv at r0
   have hcs : cs = #[sv, .int .i64 k, .int .i64 h] := by
    apply Array.ext
    ·simpa using k3
    ·intro i h1 h2
     have e : cs[i] = cs.getD i undef := by rw [Array.getD_eq_getD_getElem?, Array.getElem?_eq_getElem h1]; rfl
     rw [e]
     have : i = 0 \/ i = 1 \/ i = 2 := by simp at h2; omega
     rcases this with rfl | rfl | rfl
     ·exact hsv
     ·exact r1
     ·exact r2
   subst hcs
   have fin : ∀ (x : Int) (k' : Nat) (h' : Int) (w' : World), OnlyP ty p #[sv, .int .i64 k', .int .i64 h'] w w' -> ∃ v' g' r outs, (Ending.returned (.int .i64 x) : Ending) = .returned v' /\ Below 0 w w' /\ (∀ b, b < w.heap.size -> g.up b = none -> w'.heap[b]? = w.heap[b]?) /\ (∀ b, g.S b -> Gh.S g' b) /\ (∀ b, b < w.heap.size -> g'.S b -> g.S b \/ g.up b ≠ none) /\ (∀ b, g'.S b -> b < w'.heap.size) /\ (∀ b p, g'.up b = some p -> b < w'.heap.size /\ (b < w.heap.size -> g.up b ≠ none) /\ ¬ g'.S b) /\ (r = .s (.int .i64 x) /\ outs = [curD zs k' h']) /\ RNs g' w' r v' /\ ∀ (j : Nat) (d : D) (u : Value), outs[j]? = some d -> [Value.pointer (some ⟨p, 0, none⟩)][j]? = some u -> RU g' w' j d u := by
    intro x k' h' w' o
    have hup : ∀ b, b < w.heap.size -> g.up b = none -> w'.heap[b]? = w.heap[b]? := fun b q1 q2 => o.other b q1 (fun q => by subst q; rw [k1] at q2; cases q2)
    have mv : Mv (fun _ => False) (fun q => q) g g w w' := ⟨fun b hb => ⟨hb, o.other b (hS b hb) (fun q => hnS (q ▸ hb))⟩, fun b q _ f => f.elim, fun b q o' _ f => f.elim⟩
    refine ⟨_, g, .s (.int .i64 x), _, rfl, ⟨o.os, o.tape, o.output, o.size, fun b hb => absurd hb (by omega)⟩, hup, fun _ q => q, fun _ _ q => .inl q, fun b q => Nat.lt_of_lt_of_le (hS b q) o.size, fun b q hq => ⟨Nat.lt_of_lt_of_le (hu b q hq).1 o.size, fun _ => (by rw [hq]; simp), (hu b q hq).2⟩, ⟨rfl, rfl⟩, Rep.s rfl, fun j d u q1 q2 => ?_⟩
    cases j with
    | succ j => simp at q1
    | zero =>
     simp at q1 q2
     subst q1 q2
     refine Rep.opt _ k1 o.at_p rfl fun j d hj => ?_
     match j, hj with
     | 0, hj =>
      simp at hj; subst hj
      have f1 := r0.free (fun _ _ _ q => by cases q) (fun _ q => by cases q) none
      exact (Rep.move mv f1 (fun q hq => by cases hq)).free (fun _ _ _ q => by cases q) (fun _ q => by cases q) _
     | 1, hj => simp at hj; subst hj; exact Rep.s rfl
     | 2, hj => simp at hj; subst hj; exact Rep.s rfl
   have hr := r0
   generalize hrows : zs.map u8E = rows at hr
   cases hr with
   | sl0 hc =>
    have hz : zs = [] := by simpa using hrows
    subst hz
    refine (YK w ty p 0 _ k _ h k2 (Nat.zero_le _) (Nat.zero_le _)).mono ?_
    rintro e w' ⟨rfl, o⟩
    exact fin _ _ _ w' o
   | @sl _ _ _ b off c us c1 c2 c3 c4 c5 =>
    subst hrows
    have hl : (zs.map u8E).length = zs.length := by simp
    by_cases hk : k < zs.length
    ·have hg : (zs.map u8E)[k]? = some (u8E zs[k]) := by rw [List.getElem?_map, List.getElem?_eq_getElem hk]; rfl
     obtain ⟨s1, s2⟩ := c4 k 0 _ _ hg rfl
     have s3 := Rep.s_inv (c5 k 0 _ _ hg rfl)
     rw [s3, show off + k * 1 + 0 = off + k by omega] at s2
     have hzb := UInt8.toNat_lt zs[k]
     have e1 : bytM zs k h = curY (curH h) (zs[k].toNat : Int) := by unfold bytM; rw [List.getElem?_eq_getElem hk]
     have e2 : stepK zs k = k + 1 := if_pos hk
     rw [e1, e2]
     refine (VS w ty p b off _ c k h _ k2 (by omega) (by omega) s2 (fun q => hnS (q ▸ s1)) (by omega) (by omega)).mono ?_
     rintro e w' ⟨rfl, o⟩
     exact fin _ (k + 1) _ w' (by simpa using o)
    ·have e1 : bytM zs k h = curX (curH h) := by unfold bytM; rw [List.getElem?_eq_none (by omega)]
     have e2 : stepK zs k = k := if_neg hk
     rw [e1, e2]
     refine (YK w ty p _ c k _ h k2 (by omega) (by omega)).mono ?_
     rintro e w' ⟨rfl, o⟩
     exact fin _ _ _ w' o
structure Cur where
 zs : List UInt8
 k : Nat
 h : Int
abbrev Cur.d (c : Cur) : D := curD c.zs c.k c.h
def Cur.nx (c : Cur) : Cur := ⟨c.zs, stepK c.zs c.k, curH c.h⟩
def Cur.b (c : Cur) : Int := bytM c.zs c.k c.h
theorem Cur.b_bd (c : Cur) : 0 <= c.b /\ c.b <= 255 := bytM_bd _ _ _
theorem Yx (c : Cur) : FCon Tryz.prog 126 [c.d] (fun r o => r = .s (.int .i64 c.b) /\ o = [c.nx.d]) := c_l01Byte _ _ _
def Cur.below (c : Cur) (n : Int) : Int × Cur := if n <= 0 then (0, c) else if n <= 256 then (c.b.tmod n, c.nx) else ((c.b * 16777216 + c.nx.b * 65536 + c.nx.nx.b * 256 + c.nx.nx.nx.b).tmod n, c.nx.nx.nx.nx)
theorem Cur.below_bd (c : Cur) {n : Int} (h : 0 < n) : 0 <= (c.below n).1 /\ (c.below n).1 < n := by
 have a1 := c.b_bd; have a2 := c.nx.b_bd; have a3 := c.nx.nx.b_bd; have a4 := c.nx.nx.nx.b_bd
 unfold Cur.below
 rw [if_neg (by omega)]
 split
 ·exact ⟨Int.tmod_nonneg _ a1.1, Int.tmod_lt_of_pos _ h⟩
 ·exact ⟨Int.tmod_nonneg _ (by omega), Int.tmod_lt_of_pos _ h⟩
theorem c_below (c : Cur) (n : Int) (hn : n <= 4294967296) : FCon Tryz.prog 53 [c.d, .s (.int .i64 n)] (fun r o => r = .s (.int .i64 (c.below n).1) /\ o = [(c.below n).2.d, .un]) := by
 by_cases h0 : n <= 0
 ·have e : c.below n = (0, c) := by unfold Cur.below; rw [if_pos h0]
  rw [e]
  refine FI PM Tryz.func53 Tryz.ntmps53 [] rfl rfl ?_
  (have hWf := f0; repeat' (first | refine zS ?_ | refine zI ?_ ?_ | exact zF0 | refine zD fun hb => ?_ | exact zC | refine zT ?_ | fail))
 ·by_cases h1 : n <= 256
  ·have e : c.below n = (c.b.tmod n, c.nx) := by unfold Cur.below; rw [if_neg h0, if_pos h1]
   rw [e]
   refine FI PM Tryz.func53 Tryz.ntmps53 [] rfl rfl ?_
   (have hWf := f0; repeat' (first | refine zS ?_ | refine zI ?_ ?_ | refine zH (Yx c) ?_ | exact zF0 | refine zD fun hb => ?_ | exact zC | refine zT ?_ | fail))
   trace_state
  ·have e : c.below n = ((c.b * 16777216 + c.nx.b * 65536 + c.nx.nx.b * 256 + c.nx.nx.nx.b).tmod n, c.nx.nx.nx.nx) := by unfold Cur.below; rw [if_neg h0, if_neg h1]
   have a1 := c.b_bd; have a2 := c.nx.b_bd; have a3 := c.nx.nx.b_bd; have a4 := c.nx.nx.nx.b_bd
   rw [e]
   refine FI PM Tryz.func53 Tryz.ntmps53 [] rfl rfl ?_
   (have hWf := f0; repeat' (first | refine zS ?_ | refine zI ?_ ?_ | refine zH (Yx c) ?_ | refine zH (Yx c.nx) ?_ | refine zH (Yx c.nx.nx) ?_ | refine zH (Yx c.nx.nx.nx) ?_ | exact zF0 | refine zD fun hb => ?_ | exact zC | refine zT ?_ | fail))
   trace_state
def bytR (_ : Hp) (r : List Value) (z : UInt8) : Prop := r = [.int .u8 z.toNat]
abbrev BytS (h : Hp) (v : Value) (zs : List UInt8) : Prop := SlOf 1 bytR h v zs
theorem BytS.cell {h : Hp} {a : Option Addr} {n c : Nat} {zs : List UInt8} (x : BytS h (.slice a n c) zs) {i : Nat} (hi : i < zs.length) :
  ∃ b off, a = some ⟨b, off, none⟩ /\ ∀ j (hj : j < zs.length) (w : World), Sub h w -> w.cell? ⟨b, off + j, none⟩ = some (.int .u8 zs[j].toNat) := by
 obtain ⟨a', c', e, _, _, r⟩ := x
 injection e with e1 e2 e3
 subst e1
 rcases r with rfl | ⟨b, off, ea, hc⟩
 ·simp at hi
 ·refine ⟨b, off, ea, fun j hj w hw => ?_⟩
  obtain ⟨r, hr1, hr2, hr3⟩ := hc j hj
  rw [hr3] at hr2
  have := hr2.cell hw (i := 0) (by simp)
  rw [Nat.mul_one] at this
  simpa using this
theorem QX (w : World) (sl : Value) (zs : List UInt8) (hb : BytS (hp w) sl zs) :
  Calls Tryz.prog 39 #[sl] w fun e w' => ∃ hh : Int, e = .returned (.pointer (some ⟨w.heap.size, 0, none⟩)) /\ w' = w.alloc (.cells #[sl, .int .i64 0, .int .i64 hh] 145) := by
 have HB := Lib.hid hb
 obtain ⟨a, c, rfl, hc1, hc2, -⟩ := hb
 unfold maxLen at hc2
 go_enter Tryz.func39, Tryz.ntmps39
 go_wp2
 go_loop [3, 4] (fun hv i => ∃ (k : Nat) (hh : Int), k <= zs.length /\ i = .int .i64 k /\ hv = .int .i64 hh) (fun _ i => zs.length - (intOf i).toNat)
 case atStart => exact ⟨0, _, by omega, rfl, rfl⟩
 case round =>
  obtain ⟨k, hh, hk, rfl, rfl⟩ := hrel
  by_cases hlt : k < zs.length /\ k < 4000
  ·obtain ⟨hlt, h4⟩ := hlt
   obtain ⟨b, off, rfl, hcell⟩ := HB.out.cell hlt
   have cb := hcell k hlt w (Sub.self w)
   clear hcell
   go_wp2
   go_round
   case rel => exact ⟨k + 1, _, by omega, by go_num, rfl⟩
   case measure => simp [intOf]; omega
  ·by_cases h4 : k < zs.length
   ·have h5 : ¬ (k : Int) < 4000 := by omega
    have h6 : (k : Int) < zs.length := by omega
    clear hlt
    go_wp2
    go_ret
    first | exact ⟨rfl, hh, rfl⟩ | exact ⟨hh, rfl, rfl⟩
   ·have h6 : ¬ (k : Int) < zs.length := by omega
    clear hlt
    go_wp2
    go_ret
    first | exact ⟨rfl, hh, rfl⟩ | exact ⟨hh, rfl, rfl⟩
theorem VA (zs : List UInt8) : FCon Tryz.prog 39 [.sl 1 (zs.map u8E)] (fun r _ => ∃ h : Int, r = (⟨zs, 0, h⟩ : Cur).d) := by
 refine ⟨fun vs w => ?_, fun w g vs hS hu hlen hv => ?_⟩
 ·have h1 := Tryz.func39
  have hname' : ¬ Tryz.f39.name = "runtime.NumGoroutine" := by decide
  have hbn : ¬ Tryz.f39.body = none := by decide
  simp [callFunc, h1, hname', hbn]
 ·obtain ⟨v, rfl, h0⟩ := XH (P := fun j d u => RA g w j d u) hlen hv
  have h0 : Rep g.S g.up w (some (.par 0 0)) (.sl 1 (zs.map u8E)) v := h0
  have f1 := h0.free (fun _ _ _ q => by cases q) (fun _ q => by cases q) none
  have hb : BytS (hp w) v zs := Rep.slOf (enc := u8E) (k := 1) (R := bytR) (fun _ _ => rfl) (by decide) (fun r x _ hr => by
   obtain ⟨h1, h2⟩ := hr
   match r, h1 with
   | [u], _ => exact congrArg (fun z => [z]) (Rep.s_inv (h2 0 _ u rfl rfl))) f1
  refine (QX w v zs hb).mono ?_
  rintro e w' ⟨hh, rfl, rfl⟩
  have hold : ∀ b, b < w.heap.size -> (w.alloc (.cells #[v, .int .i64 0, .int .i64 hh] 145)).heap[b]? = w.heap[b]? := fun b hb => Below.heap_alloc _ _ _ hb
  have hnew : (w.alloc (.cells #[v, .int .i64 0, .int .i64 hh] 145)).heap[w.heap.size]? = some (.cells #[v, .int .i64 0, .int .i64 hh] 145 (0, 0)) := by
   show (w.heap.push _)[w.heap.size]? = _
   simp
  let up' : Nat -> Option Pos := fun b => if b = w.heap.size then some (.ans 0 0) else none
  have hsz : (w.alloc (.cells #[v, .int .i64 0, .int .i64 hh] 145)).heap.size = w.heap.size + 1 := by simp
  have mv : Mv (fun _ => False) (fun q => q) g ⟨g.β, g.κ, up', g.S⟩ w (w.alloc (.cells #[v, .int .i64 0, .int .i64 hh] 145)) := ⟨fun b hb => ⟨hb, hold b (hS b hb)⟩, fun b q _ f => f.elim, fun b q o' _ f => f.elim⟩
  refine ⟨_, ⟨g.β, g.κ, up', g.S⟩, (⟨zs, 0, hh⟩ : Cur).d, [], rfl, (Below.refl _ _).alloc (Nat.zero_le _) _, fun b q _ => hold b q, fun _ q => q, fun _ _ q => .inl q, fun b q => by rw [hsz]; have := hS b q; omega, fun b q hq => ?_, ⟨hh, rfl⟩, ?_, fun j d u q => by simp at q⟩
  ·have hb' : b = w.heap.size := by
    by_cases e : b = w.heap.size
    ·exact e
    ·have : up' b = none := if_neg e
     exact absurd (hq.symm.trans this) (by simp)
   subst hb'
   exact ⟨by rw [hsz]; omega, fun q => absurd q (by omega), fun q => by have := hS _ q; omega⟩
  ·refine Rep.opt (p := .ans 0 0) _ (if_pos rfl) hnew rfl fun j d hj => ?_
   match j, hj with
   | 0, hj =>
    simp at hj; subst hj
    exact (Rep.move mv f1 (fun q hq => by cases hq)).free (fun _ _ _ q => by cases q) (fun _ q => by cases q) _
   | 1, hj => simp at hj; subst hj; exact Rep.s rfl
   | 2, hj => simp at hj; subst hj; exact Rep.s rfl
theorem rdE_u8 : RdE 5 1 u8E (fun _ => True) := by
 refine ⟨by kernel_rfl, fun H en W n cs x h => ?_⟩
 obtain ⟨z, rfl, -, hz⟩ := DataW.trod_int Tryz.underlying5 h
 simp only [Lit.wf, IntKind.min, IntKind.max, IntKind.signed, IntKind.bits, Bool.and_eq_true] at hz
 simp at hz
 refine ⟨UInt8.ofNat z.toNat, ?_, trivial⟩
 have e : ((UInt8.ofNat z.toNat).toNat : Int) = z := by rw [UInt8.toNat_ofNat']; omega
 rw [u8E_eq, e]
 exact V7 (.s rfl)
theorem rdE_bytes : RdE 36 1 (fun zs : List UInt8 => [.sl 1 (zs.map u8E)]) (fun zs => ∀ z ∈ zs, True) := RdE.slice Tryz.underlying36 (by kernel_rfl) (by decide) rdE_u8
end Go.Proofs.YtgcdbmcoendcdaaGreat
namespace Go.Proofs.YtgcdbmcoendcdaaGreat
def valL (l : List UInt8) : Int := l.foldl (fun a d => 10 * a + ((d.toNat : Int) - 48)) 0
theorem YZ (l : List UInt8) (d : UInt8) : valL (l ++ [d]) = 10 * valL l + ((d.toNat : Int) - 48) := by
 simp [valL, List.foldl_append]
def vM (l : List UInt8) : Prop := ∀ d ∈ l, 48 <= d.toNat /\ d.toNat <= 57
theorem VJ : ∀ (n : Nat), vM (decL n) := by
 intro n
 induction n using Nat.strongRecOn with
 | _ n ih =>
  by_cases h : n < 10
  ·rw [uB h]
   intro d hd
   simp at hd
   subst hd
   rw [XD h]; omega
  ·rw [XX h]
   intro d hd
   rcases List.mem_append.1 hd with hd | hd
   ·exact ih (n / 10) (by omega) d hd
   ·simp at hd
    subst hd
    rw [XD (by omega)]; omega
theorem U6 : ∀ (n : Nat), valL (decL n) = n := by
 intro n
 induction n using Nat.strongRecOn with
 | _ n ih =>
  by_cases h : n < 10
  ·rw [uB h]
   simp [valL, XD h]; omega
  ·rw [XX h, YZ, ih (n / 10) (by omega), XD (by omega)]
   omega
theorem Q0 {l : List UInt8} (h : vM l) : 0 <= valL l := by
 have key : ∀ (l : List UInt8) (a : Int), 0 <= a -> vM l -> 0 <= l.foldl (fun a d => 10 * a + ((d.toNat : Int) - 48)) a := by
  intro l
  induction l with
  | nil => intro a ha _; exact ha
  | cons d l ih =>
   intro a ha h
   have h2 := h d (by simp)
   exact ih _ (by show 0 <= 10 * a + ((d.toNat : Int) - 48); omega) (fun x hx => h x (List.mem_cons_of_mem _ hx))
 exact key l 0 (by omega) h
theorem Y0 {l : List UInt8} (h : vM l) (k : Nat) (hk : k < l.length) : 10 * valL (l.take k) <= valL (l.take (k + 1)) := by
 rw [List.take_succ_eq_append_getElem hk, YZ]
 have := h _ (List.getElem_mem hk)
 omega
theorem Qo {l : List UInt8} (h : vM l) (k : Nat) : vM (l.take k) := fun d hd => h d (List.mem_of_mem_take hd)
theorem Uq {l : List UInt8} (h : vM l) (k : Nat) : ∀ j, k <= j -> valL (l.take k) <= valL (l.take j) := by
 intro j hj
 induction j with
 | zero =>
  have : k = 0 := by omega
  subst this; exact Int.le_refl _
 | succ j ih =>
  by_cases e : k = j + 1
  ·subst e; exact Int.le_refl _
  ·have h1 := ih (by omega)
   by_cases hl : j < l.length
   ·have h2 := Y0 h j hl
    have h3 := Q0 (Qo h j)
    omega
   ·rw [List.take_of_length_le (by omega : l.length <= j + 1)]
    rw [List.take_of_length_le (by omega : l.length <= j)] at h1
    exact h1
def offL (l : List UInt8) : Nat := match l with | 45 :: _ => 1 | _ => 0
def yx (l : List UInt8) (k : Nat) : Int := valL ((l.take k).drop (offL l))
theorem Xw (l : List UInt8) (k : Nat) (h : k <= offL l) : yx l k = 0 := by
 unfold yx
 rw [List.drop_eq_nil_of_le (by simp; omega)]; rfl
theorem xa4 (l : List UInt8) (k : Nat) (h : offL l <= k) (hk : k < l.length) : yx l (k + 1) = 10 * yx l k + ((l[k].toNat : Int) - 48) := by
 unfold yx
 rw [List.take_succ_eq_append_getElem hk, List.drop_append_of_le_length (by simp; omega), YZ]
noncomputable def txtO (l : List UInt8) : Option Int := open Classical in if h : l ≠ [] /\ ∃ n, numT n = l then some h.2.choose else none
theorem offL_of {l : List UInt8} (h0 : l[0]? = some 45) : offL l = 1 := by
 cases l with
 | nil => simp at h0
 | cons b l => simp at h0; subst h0; rfl
theorem VZ {l : List UInt8} (h0 : l[0]? ≠ some 45) : offL l = 0 := by
 cases l with
 | nil => rfl
 | cons b l =>
  unfold offL
  split
  ·rename_i e; injection e with e _; subst e; simp at h0
  ·rfl
theorem WQ {n : Int} {l : List UInt8} (h : numT n = l) (hl : l ≠ []) : ∃ m : Nat, (m : Int) <= 4611686018427387904 /\ l.drop (offL l) = decL m /\ (offL l = 1 -> n = -(m : Int)) /\ (offL l = 0 -> n = (m : Int)) /\ l.length <= 20 := by
 have hlen := VX n
 rw [h] at hlen
 unfold numT at h
 split at h
 ·rename_i hr
  split at h
  ·rename_i hn
   have e : offL l = 1 := by rw [<- h]; rfl
   refine ⟨n.natAbs, by omega, by rw [e, <- h]; rfl, fun _ => by omega, fun e' => by omega, hlen⟩
  ·rename_i hn
   have e : offL l = 0 := by
    apply VZ
    intro h0
    have hd := VJ n.natAbs
    rw [h] at hd
    have := hd 45 (List.mem_of_getElem? h0)
    simp at this
   exact ⟨n.natAbs, by omega, by rw [e, <- h]; rfl, fun e' => by omega, fun _ => by omega, hlen⟩
 ·exact absurd h.symm hl
theorem Qh {l : List UInt8} {k : Nat} (hk : k < l.length) (ho : offL l <= k) (hb : ¬ (48 <= l[k].toNat /\ l[k].toNat <= 57) \/ 500000000000000000 < yx l k) : txtO l = none := by
 unfold txtO
 rw [dif_neg]
 rintro ⟨hl, n, hn⟩
 obtain ⟨m, hm, hd, _, _, _⟩ := WQ hn hl
 have hdig := VJ m
 have hidx : l[k] ∈ decL m := by
  rw [<- hd]
  have : (l.drop (offL l))[k - offL l]? = some l[k] := by
   rw [List.getElem?_drop, show offL l + (k - offL l) = k by omega, List.getElem?_eq_getElem hk]
  exact List.mem_of_getElem? this
 rcases hb with hb | hb
 ·exact hb (hdig _ hidx)
 ·have hv : yx l k = valL ((decL m).take (k - offL l)) := by
   unfold yx
   rw [List.drop_take, hd]
  have hlen : k - offL l < (decL m).length := by rw [<- hd, List.length_drop]; omega
  have h1 := Y0 hdig (k - offL l) hlen
  have h2 := Uq hdig (k - offL l + 1) (decL m).length (by omega)
  rw [List.take_length, U6] at h2
  rw [hv] at hb
  omega
theorem txtO_len {l : List UInt8} (h : l.length < 1 \/ 20 < l.length) : txtO l = none := by
 unfold txtO
 rw [dif_neg]
 rintro ⟨hl, n, hn⟩
 have := VX n
 rw [hn] at this
 rcases h with h | h
 ·exact hl (List.length_eq_zero_iff.1 (by omega))
 ·omega
theorem txt_val {l : List UInt8} {n : Int} (hn : numT n = l) (hl : l ≠ []) (z : Int) (hz : z = if offL l = 1 then - yx l l.length else yx l l.length) : n = z := by
 obtain ⟨m, hm, hd, h1, h0, _⟩ := WQ hn hl
 have hv : yx l l.length = m := by unfold yx; rw [List.take_length, hd, U6]
 have ho : offL l = 0 \/ offL l = 1 := by unfold offL; split <;> simp
 rcases ho with ho | ho
 ·rw [hz, if_neg (by omega), hv]; exact h0 ho
 ·rw [hz, if_pos ho, hv]; exact h1 ho
theorem Qi {l : List UInt8} (hl : l ≠ []) (z : Int) (hz : z = if offL l = 1 then - yx l l.length else yx l l.length) (h : numT z = l) : txtO l = some z := by
 unfold txtO
 have hx : l ≠ [] /\ ∃ n, numT n = l := ⟨hl, z, h⟩
 rw [dif_pos hx]
 rw [txt_val hx.2.choose_spec hl z hz]
theorem txtO_no {l : List UInt8} (hl : l ≠ []) (z : Int) (hz : z = if offL l = 1 then - yx l l.length else yx l l.length) (h : numT z ≠ l) : txtO l = none := by
 unfold txtO
 rw [dif_neg]
 rintro ⟨_, n, hn⟩
 exact h (txt_val hn hl z hz ▸ hn)
end Go.Proofs.YtgcdbmcoendcdaaGreat
namespace Go.Proofs.YtgcdbmcoendcdaaGreat
open Go.RowKit
def hexI (n : Int) : Int := if n < 10 then 48 + n else 87 + n
theorem hexI_bd {n : Int} (h0 : 0 <= n) (h1 : n < 16) : 48 <= hexI n /\ hexI n <= 102 := by unfold hexI; split <;> omega
def hexB (n : Nat) : UInt8 := UInt8.ofNat (hexI n).toNat
theorem hexV {n : Int} (h0 : 0 <= n) (h1 : n < 16) : Value.int .u8 (hexI n) = yL (hexB n.toNat) := by
 have := hexI_bd h0 h1
 rw [Vx (by omega) (by omega), hexB, Int.toNat_of_nonneg h0]
def quoB (b : UInt8) : List UInt8 :=
 if b.toNat = 10 then [92, 110] else if b.toNat = 34 \/ b.toNat = 92 then [92, b] else if 32 <= b.toNat /\ b.toNat <= 126 then [b]
 else [92, 120, hexB (b.toNat / 16), hexB (b.toNat % 16)]
theorem quoB_n {b : UInt8} (h : b.toNat = 10) : quoB b = [92, 110] := by rw [quoB, if_pos h]
theorem quoB_e {b : UInt8} (h0 : ¬ b.toNat = 10) (h : b.toNat = 34 \/ b.toNat = 92) : quoB b = [92, b] := by rw [quoB, if_neg h0, if_pos h]
theorem quoB_p {b : UInt8} (h0 : ¬ b.toNat = 10) (h : ¬ (b.toNat = 34 \/ b.toNat = 92)) (h2 : 32 <= b.toNat /\ b.toNat <= 126) : quoB b = [b] := by rw [quoB, if_neg h0, if_neg h, if_pos h2]
theorem quoB_x {b : UInt8} (h0 : ¬ b.toNat = 10) (h : ¬ (b.toNat = 34 \/ b.toNat = 92)) (h2 : ¬ (32 <= b.toNat /\ b.toNat <= 126)) : quoB b = [92, 120, hexB (b.toNat / 16), hexB (b.toNat % 16)] := by rw [quoB, if_neg h0, if_neg h, if_neg h2]
theorem quoB_len (b : UInt8) : (quoB b).length <= 4 := by unfold quoB; split; simp; split; simp; split <;> simp
def quoP (l : List UInt8) (k : Nat) : List UInt8 := 34 :: (l.take k).flatMap quoB
def quoL (l : List UInt8) : List UInt8 := 34 :: l.flatMap quoB ++ [34]
theorem quoP_zero (l : List UInt8) : quoP l 0 = [34] := by simp [quoP]
theorem Xi (l : List UInt8) (k : Nat) (h : k < l.length) : quoP l (k + 1) = quoP l k ++ quoB l[k] := by
 unfold quoP
 rw [List.take_succ_eq_append_getElem h, List.flatMap_append]; simp
theorem Z9 (l : List UInt8) (k : Nat) (h : k = l.length) : quoP l k ++ [34] = quoL l := by
 subst h; simp [quoP, quoL]
theorem Wa (l : List UInt8) : ∀ k, (quoP l k).length <= 4 * k + 1
 | 0 => by simp [quoP]
 | k + 1 => by
  by_cases h : k < l.length
  ·rw [Xi l k h, List.length_append]
   have := Wa l k
   have := quoB_len l[k]
   omega
  ·have e : quoP l (k + 1) = quoP l k := by unfold quoP; rw [List.take_of_length_le (by omega), List.take_of_length_le (by omega)]
   rw [e]; have := Wa l k; omega
noncomputable def unqO (l : List UInt8) : Option (List UInt8) := open Classical in if h : ∃ t, quoL t = l then some h.choose else none
def UInv (l : List UInt8) (i : Nat) (out : List UInt8) : Prop := ∀ t, quoL t = l -> ∃ j, j <= t.length /\ i = (quoP t j).length /\ out = t.take j
theorem Yg (t : List UInt8) (j : Nat) (h : j < t.length) : quoL t = quoP t j ++ (quoB t[j] ++ ((t.drop (j + 1)).flatMap quoB ++ [34])) := by
 have e : t = t.take j ++ t[j] :: t.drop (j + 1) := by rw [<- List.drop_eq_getElem_cons h, List.take_append_drop]
 unfold quoL quoP
 conv => lhs; rw [e]
 rw [List.flatMap_append, List.flatMap_cons]
 simp [List.append_assoc]
theorem UInv.start (l : List UInt8) : UInv l 1 [] := fun t _ => ⟨0, Nat.zero_le _, by simp [quoP], by simp⟩
theorem UInv.done {l out : List UInt8} {i : Nat} (h : UInv l i out) (hi : l.length <= i + 1) : ∀ t, quoL t = l -> out = t := by
 intro t ht
 obtain ⟨j, hj, e, eo⟩ := h t ht
 have hl : l.length = (quoP t t.length).length + 1 := by rw [<- ht, <- Z9 t t.length rfl, List.length_append]; rfl
 by_cases hlt : j < t.length
 ·have := congrArg List.length (Yg t j hlt)
  rw [ht, List.length_append, List.length_append, List.length_append] at this
  have h1 : 1 <= (quoB t[j]).length := by unfold quoB; split; simp; split; simp; split <;> simp
  simp at this
  omega
 ·rw [eo, List.take_of_length_le (by omega)]
theorem unqO_none {l out : List UInt8} (h : ∀ t, quoL t = l -> out = t) (hq : quoL out ≠ l) : unqO l = none := by
 unfold unqO
 rw [dif_neg]
 rintro ⟨t, ht⟩
 exact hq (h t ht ▸ ht)
theorem unqO_some {l out : List UInt8} (h : ∀ t, quoL t = l -> out = t) (hq : quoL out = l) : unqO l = some out := by
 unfold unqO
 have hx : ∃ t, quoL t = l := ⟨out, hq⟩
 rw [dif_pos hx]
 rw [h _ hx.choose_spec]
theorem Vu {l : List UInt8} {i k : Nat} {t : List UInt8} {j : Nat} (ht : quoL t = l) (hj : j < t.length) (hi : i = (quoP t j).length) (hk : k < (quoB t[j]).length) : l[i + k]? = (quoB t[j])[k]? := by
 rw [<- ht, Yg t j hj, hi, List.getElem?_append_right (by omega), List.getElem?_append_left (by omega)]
 congr 1; omega
theorem UInv.in_text {l out : List UInt8} {i : Nat} (h : UInv l i out) (hi : i + 1 < l.length) (t : List UInt8) (ht : quoL t = l) : ∃ j, ∃ hj : j < t.length, i = (quoP t j).length /\ out = t.take j := by
 obtain ⟨j, hj, e, eo⟩ := h t ht
 have : j < t.length := by
  rcases Nat.lt_or_ge j t.length with h | h
  ·exact h
  ·exfalso
   have : j = t.length := by omega
   subst this
   have hl : l.length = (quoP t t.length).length + 1 := by rw [<- ht, <- Z9 t t.length rfl, List.length_append]; rfl
   omega
 exact ⟨j, this, e, eo⟩
theorem take_snoc' (t : List UInt8) (j : Nat) (h : j < t.length) : t.take (j + 1) = t.take j ++ [t[j]] := List.take_succ_eq_append_getElem h
theorem UInv.go {l out : List UInt8} {i n : Nat} {b : UInt8} (h : UInv l i out) (hi : i + 1 < l.length)
  (hs : ∀ (t : List UInt8) (j : Nat) (_hj : j < t.length), (∀ k, k < (quoB t[j]).length -> l[i + k]? = (quoB t[j])[k]?) -> (quoB t[j]).length = n /\ t[j] = b) : UInv l (i + n) (out ++ [b]) := by
 intro t ht
 obtain ⟨j, hj, e, eo⟩ := h.in_text hi t ht
 obtain ⟨h1, h2⟩ := hs t j hj (fun k hk => Vu ht hj e hk)
 refine ⟨j + 1, hj, ?_, ?_⟩
 ·rw [Xi t j hj, List.length_append, h1, e]
 ·rw [eo, take_snoc' t j hj, h2]
theorem vE (b : UInt8) : (quoB b = [92, 110] /\ b = 10) \/ (quoB b = [92, b] /\ (b = 34 \/ b = 92)) \/ (quoB b = [b] /\ b ≠ 92) \/ quoB b = [92, 120, hexB (b.toNat / 16), hexB (b.toNat % 16)] := by
 by_cases h0 : b.toNat = 10
 ·exact .inl ⟨quoB_n h0, by apply UInt8.toNat.inj; rw [h0]; rfl⟩
 ·by_cases h1 : b.toNat = 34 \/ b.toNat = 92
  ·refine .inr (.inl ⟨quoB_e h0 h1, h1.imp (fun h => ?_) (fun h => ?_)⟩) <;> (apply UInt8.toNat.inj; rw [h]; rfl)
  ·by_cases h2 : 32 <= b.toNat /\ b.toNat <= 126
   ·refine .inr (.inr (.inl ⟨quoB_p h0 h1 h2, fun e => h1 (.inr (by rw [e]; rfl))⟩))
   ·exact .inr (.inr (.inr (quoB_x h0 h1 h2)))
theorem UInv.plain {l out : List UInt8} {i : Nat} {b : UInt8} (h : UInv l i out) (hi : i + 1 < l.length) (hb : l[i]? = some b) (hne : b ≠ 92) : UInv l (i + 1) (out ++ [b]) :=
 h.go hi fun t j hj ha => by
  have h0 := ha 0
  rcases vE t[j] with ⟨e, _⟩ | ⟨e, _⟩ | ⟨e, _⟩ | e <;> rw [e] at h0 ⊢ <;> simp [hb] at h0 <;> first | exact absurd h0 hne | exact ⟨rfl, h0.symm⟩
theorem UInv.newline {l out : List UInt8} {i : Nat} (h : UInv l i out) (hi : i + 1 < l.length) (hb : l[i]? = some 92) (hc : l[i + 1]? = some 110) : UInv l (i + 2) (out ++ [10]) :=
 h.go hi fun t j hj ha => by
  have h0 := ha 0; have h1 := ha 1
  rcases vE t[j] with ⟨e, e'⟩ | ⟨e, e'⟩ | ⟨e, e'⟩ | e <;> rw [e] at h0 h1 ⊢ <;> simp [hb, hc] at h0 h1
  ·exact ⟨rfl, e'⟩
  ·rcases e' with e' | e' <;> rw [e'] at h1 <;> simp at h1
  ·exact absurd h0.symm e'
theorem UInv.escaped {l out : List UInt8} {i : Nat} {c : UInt8} (h : UInv l i out) (hi : i + 1 < l.length) (hb : l[i]? = some 92) (hc : l[i + 1]? = some c) (h1 : c ≠ 110) (h2 : c ≠ 120 \/ l.length <= i + 4) : UInv l (i + 2) (out ++ [c]) := by
 intro t ht
 obtain ⟨j, hj, e, eo⟩ := h.in_text hi t ht
 have ha := fun k hk => Vu (k := k) ht hj e hk
 have h0 := ha 0; have h1' := ha 1
 have hlen := congrArg List.length (Yg t j hj)
 rw [ht] at hlen
 have key : (quoB t[j]).length = 2 /\ t[j] = c := by
  rcases vE t[j] with ⟨q, e'⟩ | ⟨q, e'⟩ | ⟨q, e'⟩ | q <;> rw [q] at h0 h1' hlen ⊢ <;> simp [hb, hc] at h0 h1'
  ·exact absurd h1' h1
  ·exact ⟨rfl, h1'.symm⟩
  ·exact absurd h0.symm e'
  ·exfalso
   rcases h2 with h2 | h2
   ·exact h2 h1'
   ·simp at hlen; omega
 refine ⟨j + 1, hj, ?_, ?_⟩
 ·rw [Xi t j hj, List.length_append, key.1, e]
 ·rw [eo, take_snoc' t j hj, key.2]
theorem UInv.hex {l out : List UInt8} {i : Nat} {c d b : UInt8} (h : UInv l i out) (hi : i + 1 < l.length) (hb : l[i]? = some 92) (hx : l[i + 1]? = some 120) (hc : l[i + 2]? = some c) (hd : l[i + 3]? = some d)
  (hv : ∀ x : UInt8, c = hexB (x.toNat / 16) -> d = hexB (x.toNat % 16) -> x = b) : UInv l (i + 4) (out ++ [b]) :=
 h.go hi fun t j hj ha => by
  have h0 := ha 0; have h1 := ha 1; have h2 := ha 2; have h3 := ha 3
  rcases vE t[j] with ⟨e, e'⟩ | ⟨e, e'⟩ | ⟨e, e'⟩ | e <;> rw [e] at h0 h1 h2 h3 ⊢ <;> simp [hb, hx, hc, hd] at h0 h1 h2 h3
  ·rcases e' with e' | e' <;> rw [e'] at h1 <;> simp at h1
  ·exact absurd h0.symm e'
  ·exact ⟨rfl, hv _ h2 h3⟩
end Go.Proofs.YtgcdbmcoendcdaaGreat
namespace Go.Proofs.YtgcdbmcoendcdaaGreat
open Go.RowKit Go.ChangeShapes Go.WideShapes
structure MTok where
 kind : Int
 n : Int
 s : ByteArray
 at_ : Int
def MTok.enc (x : MTok) : List D := [.s (.int .i64 x.kind), .s (.int .i64 x.n), .s (.string x.s), .s (.int .i64 x.at_)]
theorem MTok.enc_eq (x : MTok) : x.enc = [.s (.int .i64 x.kind), .s (.int .i64 x.n), .s (.string x.s), .s (.int .i64 x.at_)] := rfl
abbrev MTok.own (x : MTok) : List D := x.enc
theorem MTok.own_eq (x : MTok) : x.own = [.s (.int .i64 x.kind), .s (.int .i64 x.n), .s (.string x.s), .s (.int .i64 x.at_)] := rfl
theorem MTok.frz_eq (x : MTok) : frzL x.own = x.enc := by
 simp only [MTok.own_eq, MTok.enc_eq, frzL, frz]
theorem MTok.frzS (xs : List MTok) : xJ (xs.map MTok.own) = xs.map MTok.enc := ye MTok.frz_eq xs
attribute [go_sem] MTok.frzS
end Go.Proofs.YtgcdbmcoendcdaaGreat
namespace Go.Proofs.YtgcdbmcoendcdaaGreat
open Go.RowKit
def bAt (s : ByteArray) (k : Nat) : Int := ((s.data.toList.getD k 0).toNat : Int)
def hasM (s p : ByteArray) (i : Nat) : Bool := decide (i + p.size <= s.size) && ((s.extract i (i + p.size)).toList == p.toList)
theorem Zf {s p : ByteArray} {i : Nat} (h : hasM s p i = true) : i + p.size <= s.size := by
 unfold hasM at h; simp at h; omega
def lpB : ByteArray := ⟨#[40, 42]⟩
def rpB : ByteArray := ⟨#[42, 41]⟩
theorem wv : lpB.size = 2 := by kernel_rfl
theorem uu : rpB.size = 2 := by kernel_rfl
def remF (s : ByteArray) : Nat -> Nat -> Nat -> Option Nat
 | 0, _, _ => none
 | f + 1, i, d => if s.size <= i then none else if hasM s lpB i = true then remF s f (i + 2) (d + 1) else if hasM s rpB i = true then (if d = 1 then some (i + 2) else remF s f (i + 2) (d - 1)) else remF s f (i + 1) d
def remM (s : ByteArray) (i : Nat) : Option Nat := remF s (s.size + 1) i 0
theorem remF_end {s : ByteArray} {f i d : Nat} (h : s.size <= i) : remF s f i d = none := by
 cases f with
 | zero => rfl
 | succ f => rw [remF, if_pos h]
theorem remF_open {s : ByteArray} {f i d : Nat} (h : i < s.size) (hl : hasM s lpB i = true) : remF s (f + 1) i d = remF s f (i + 2) (d + 1) := by
 rw [remF, if_neg (by omega), if_pos hl]
theorem remF_last {s : ByteArray} {f i : Nat} (h : i < s.size) (hl : hasM s lpB i = false) (hr : hasM s rpB i = true) : remF s (f + 1) i 1 = some (i + 2) := by
 rw [remF, if_neg (by omega), if_neg (by simp [hl]), if_pos hr, if_pos rfl]
theorem xaN {s : ByteArray} {f i d : Nat} (h : i < s.size) (hl : hasM s lpB i = false) (hr : hasM s rpB i = true) (hd : d ≠ 1) : remF s (f + 1) i d = remF s f (i + 2) (d - 1) := by
 rw [remF, if_neg (by omega), if_neg (by simp [hl]), if_pos hr, if_neg hd]
theorem remF_pass {s : ByteArray} {f i d : Nat} (h : i < s.size) (hl : hasM s lpB i = false) (hr : hasM s rpB i = false) : remF s (f + 1) i d = remF s f (i + 1) d := by
 rw [remF, if_neg (by omega), if_neg (by simp [hl]), if_neg (by simp [hr])]
theorem Zk (s : ByteArray) : ∀ (f i d j : Nat), remF s f i d = some j -> i + 2 <= j /\ j <= s.size
 | 0, i, d, j, h => by cases h
 | f + 1, i, d, j, h => by
  rw [remF] at h
  split at h
  ·cases h
  ·split at h
   ·have := Zk s f _ _ j h; omega
   ·split at h
    ·rename_i hr
     have := Zf hr
     rw [uu] at this
     split at h
     ·injection h with h; omega
     ·have := Zk s f _ _ j h; omega
    ·have := Zk s f _ _ j h; omega
def ua (s : ByteArray) : Nat -> Nat -> Nat
 | 0, k => k
 | f + 1, k => if k < s.size /\ worI (bAt s k) = true then ua s f (k + 1) else k
def xC (s : ByteArray) (k : Nat) : Nat := ua s s.size k
theorem U7 {s : ByteArray} {f k : Nat} (h : ¬ (k < s.size /\ worI (bAt s k) = true)) : ua s f k = k := by
 cases f with
 | zero => rfl
 | succ f => rw [ua, if_neg h]
theorem Yn {s : ByteArray} {f k : Nat} (h : k < s.size) (hw : worI (bAt s k) = true) : ua s (f + 1) k = ua s f (k + 1) := by
 rw [ua, if_pos ⟨h, hw⟩]
theorem Wh (s : ByteArray) : ∀ (f k : Nat), k <= s.size -> k <= ua s f k /\ ua s f k <= s.size
 | 0, k, h => ⟨Nat.le_refl _, h⟩
 | f + 1, k, h => by
  rw [ua]
  split
  ·rename_i q; have := Wh s f (k + 1) q.1; omega
  ·exact ⟨Nat.le_refl _, h⟩
theorem Qk {s : ByteArray} {k : Nat} (h : k <= s.size) : k <= xC s k /\ xC s k <= s.size := Wh s _ k h
theorem Xl {s : ByteArray} {k : Nat} (h : k < s.size) (hw : worI (bAt s k) = true) : k < xC s k := by
 unfold xC
 obtain ⟨f, hf⟩ : ∃ f, s.size = f + 1 := ⟨s.size - 1, by omega⟩
 rw [hf, Yn h hw]
 have := (Wh s f (k + 1) h).1; omega
def quoF (s : ByteArray) : Nat -> Nat -> Option Nat
 | 0, _ => none
 | f + 1, k => if k < s.size then (if bAt s k = 92 then quoF s f (k + 2) else if bAt s k = 34 then some k else quoF s f (k + 1)) else none
def quoE (s : ByteArray) (k : Nat) : Option Nat := quoF s s.size k
theorem quoF_end {s : ByteArray} {f k : Nat} (h : s.size <= k) : quoF s f k = none := by
 cases f with
 | zero => rfl
 | succ f => rw [quoF, if_neg (by omega)]
theorem quoF_esc {s : ByteArray} {f k : Nat} (h : k < s.size) (hb : bAt s k = 92) : quoF s (f + 1) k = quoF s f (k + 2) := by
 rw [quoF, if_pos h, if_pos hb]
theorem quoF_hit {s : ByteArray} {f k : Nat} (h : k < s.size) (hb : bAt s k = 34) : quoF s (f + 1) k = some k := by
 rw [quoF, if_pos h, if_neg (by omega), if_pos hb]
theorem quoF_pass {s : ByteArray} {f k : Nat} (h : k < s.size) (h1 : bAt s k ≠ 92) (h2 : bAt s k ≠ 34) : quoF s (f + 1) k = quoF s f (k + 1) := by
 rw [quoF, if_pos h, if_neg h1, if_neg h2]
theorem Zj (s : ByteArray) : ∀ (f k j : Nat), quoF s f k = some j -> k <= j /\ j < s.size
 | 0, k, j, h => by cases h
 | f + 1, k, j, h => by
  rw [quoF] at h
  split at h
  ·split at h
   ·have := Zj s f _ j h; omega
   ·split at h
    ·injection h with h; omega
    ·have := Zj s f _ j h; omega
  ·cases h
def sign2 : List ByteArray := [⟨#[45, 62]⟩, ⟨#[60, 62]⟩, ⟨#[60, 61]⟩, ⟨#[58, 61]⟩, ⟨#[58, 58]⟩]
def sign1 : List ByteArray := [⟨#[40]⟩, ⟨#[41]⟩, ⟨#[91]⟩, ⟨#[93]⟩, ⟨#[44]⟩, ⟨#[59]⟩, ⟨#[124]⟩, ⟨#[61]⟩, ⟨#[60]⟩, ⟨#[43]⟩, ⟨#[45]⟩, ⟨#[42]⟩, ⟨#[47]⟩, ⟨#[37]⟩, ⟨#[94]⟩, ⟨#[33]⟩, ⟨#[95]⟩]
def signs : List ByteArray := sign2 ++ sign1
def noB : ByteArray := ⟨#[]⟩
def yG (s : ByteArray) (i : Nat) : ByteArray := (signs.find? fun p => hasM s p i).getD noB
theorem signs_pos : ∀ p ∈ signs, 1 <= p.size := by decide +kernel
theorem Xu (s : ByteArray) (i : Nat) : (yG s i = noB) \/ (1 <= (yG s i).size /\ i + (yG s i).size <= s.size) := by
 unfold yG
 cases h : signs.find? fun p => hasM s p i with
 | none => exact .inl rfl
 | some p =>
  refine .inr ⟨signs_pos p (List.mem_of_find?_eq_some h), ?_⟩
  have := List.find?_some (p := fun p => hasM s p i) h
  exact Zf this
def wD (n : Int) : Bool := n == 9 || n == 10 || n == 13 || n == 32
def zTok (i : Nat) : MTok := ⟨0, 0, noB, i⟩
noncomputable def tokM (s : ByteArray) (i : Nat) : MTok × Nat × Int :=
 if digI (bAt s i) = true then
  match txtO (s.extract i (xC s i)).data.toList with
  | none => (zTok i, 0, 3)
  | some n => (⟨1, n, noB, i⟩, xC s i - i, 0)
 else if (lowI (bAt s i) || uppI (bAt s i)) = true then
  if yl (s.extract i (xC s i)) = true then (⟨3, 0, s.extract i (xC s i), i⟩, xC s i - i, 0)
  else if conM (s.extract i (xC s i)).data.toList = true then (⟨4, 0, s.extract i (xC s i), i⟩, xC s i - i, 0)
  else if inL (s.extract i (xC s i)) zd = true then (⟨6, 0, s.extract i (xC s i), i⟩, xC s i - i, 0)
  else (⟨0, 0, s.extract i (xC s i), i⟩, 0, 5)
 else if bAt s i = 39 /\ i + 1 < s.size /\ lowI (bAt s (i + 1)) = true then (⟨5, bAt s (i + 1) - 97, noB, i⟩, 2, 0)
 else if bAt s i = 34 then
  match quoE s (i + 1) with
  | none => (zTok i, 0, 4)
  | some k => match unqO (s.extract i (k + 1)).data.toList with
   | none => (zTok i, 0, 4)
   | some t => (⟨2, 0, bs t, i⟩, k + 1 - i, 0)
 else if yG s i = noB then (zTok i, 0, 2)
 else (⟨6, 0, yG s i, i⟩, (yG s i).size, 0)
theorem dig_wor {n : Int} (h : digI n = true) : worI n = true := by unfold worI; simp [h]
theorem let_wor {n : Int} (h : (lowI n || uppI n) = true) : worI n = true := by unfold worI; simp [h]
theorem tokM_bd {s : ByteArray} {i : Nat} (h : i < s.size) (h0 : (tokM s i).2.2 = 0) : 1 <= (tokM s i).2.1 /\ i + (tokM s i).2.1 <= s.size /\ (tokM s i).1.at_ = i := by
 have hw := Qk (s := s) (k := i) (by omega)
 unfold tokM at h0 ⊢
 split
 ·rename_i hd
  have hp := Xl h (dig_wor hd)
  rw [if_pos hd] at h0
  split
  ·rename_i q; rw [q] at h0; cases h0
  ·exact ⟨by simp only; omega, by simp only; omega, rfl⟩
 ·rename_i hd
  rw [if_neg hd] at h0
  split
  ·rename_i hl
   have hp := Xl h (let_wor hl)
   rw [if_pos hl] at h0
   split
   ·exact ⟨by simp only; omega, by simp only; omega, rfl⟩
   ·rename_i q1
    rw [if_neg q1] at h0
    split
    ·exact ⟨by simp only; omega, by simp only; omega, rfl⟩
    ·rename_i q2
     rw [if_neg q2] at h0
     split
     ·exact ⟨by simp only; omega, by simp only; omega, rfl⟩
     ·rename_i q3
      rw [if_neg q3] at h0; cases h0
  ·rename_i hl
   rw [if_neg hl] at h0
   split
   ·rename_i q; exact ⟨by simp only; omega, by simp only; omega, rfl⟩
   ·rename_i q
    rw [if_neg q] at h0
    split
    ·rename_i q2
     rw [if_pos q2] at h0
     split
     ·rename_i q3; rw [q3] at h0; cases h0
     ·rename_i k q3
      rw [q3] at h0
      have := Zj s _ _ k q3
      simp only at h0 ⊢
      split
      ·rename_i q4; rw [q4] at h0; cases h0
      ·exact ⟨by simp only; omega, by simp only; omega, rfl⟩
    ·rename_i q2
     rw [if_neg q2] at h0
     split
     ·rename_i q3; rw [if_pos q3] at h0; cases h0
     ·rename_i q3
      rcases Xu s i with q4 | q4
      ·exact absurd q4 q3
      ·exact ⟨q4.1, q4.2, rfl⟩
noncomputable def lexF (s : ByteArray) : Nat -> Nat -> List MTok -> List MTok × Int × Int
 | 0, _, acc => (acc, 0, 0)
 | f + 1, i, acc => if s.size <= i then (acc, 0, 0)
  else if wD (bAt s i) = true then lexF s f (i + 1) acc
  else if hasM s lpB i = true then (match remM s i with | none => ([], 6, (i : Int)) | some j => lexF s f j acc)
  else if (tokM s i).2.2 = 0 then lexF s f (i + (tokM s i).2.1) (acc ++ [(tokM s i).1])
  else ([], (tokM s i).2.2, (i : Int))
noncomputable def lexM (s : ByteArray) : List MTok × Int × Int := if s.size <= 4000 then lexF s s.size 0 [] else ([], 1, 0)
theorem ZV {s : ByteArray} {f i : Nat} {acc : List MTok} (h : s.size <= i) : lexF s f i acc = (acc, 0, 0) := by
 cases f with
 | zero => rfl
 | succ f => rw [lexF, if_pos h]
theorem X9 {s : ByteArray} {f i : Nat} {acc : List MTok} (h : i < s.size) (hb : wD (bAt s i) = true) : lexF s (f + 1) i acc = lexF s f (i + 1) acc := by
 rw [lexF, if_neg (by omega), if_pos hb]
theorem ZW {s : ByteArray} {f i j : Nat} {acc : List MTok} (h : i < s.size) (hb : wD (bAt s i) = false) (hl : hasM s lpB i = true) (hr : remM s i = some j) : lexF s (f + 1) i acc = lexF s f j acc := by
 rw [lexF, if_neg (by omega), if_neg (by simp [hb]), if_pos hl, hr]
theorem Ya {s : ByteArray} {f i : Nat} {acc : List MTok} (h : i < s.size) (hb : wD (bAt s i) = false) (hl : hasM s lpB i = true) (hr : remM s i = none) : lexF s (f + 1) i acc = (([] : List MTok), (6 : Int), (i : Int)) := by
 rw [lexF, if_neg (by omega), if_neg (by simp [hb]), if_pos hl, hr]
theorem ZX {s : ByteArray} {f i : Nat} {acc : List MTok} (h : i < s.size) (hb : wD (bAt s i) = false) (hl : hasM s lpB i = false) (hc : (tokM s i).2.2 = 0) : lexF s (f + 1) i acc = lexF s f (i + (tokM s i).2.1) (acc ++ [(tokM s i).1]) := by
 rw [lexF, if_neg (by omega), if_neg (by simp [hb]), if_neg (by simp [hl]), if_pos hc]
theorem ZU {s : ByteArray} {f i : Nat} {acc : List MTok} (h : i < s.size) (hb : wD (bAt s i) = false) (hl : hasM s lpB i = false) (hc : (tokM s i).2.2 ≠ 0) : lexF s (f + 1) i acc = (([] : List MTok), (tokM s i).2.2, (i : Int)) := by
 rw [lexF, if_neg (by omega), if_neg (by simp [hb]), if_neg (by simp [hl]), if_neg hc]
theorem remM_bd {s : ByteArray} {i j : Nat} (h : remM s i = some j) : i + 2 <= j /\ j <= s.size := Zk s _ _ _ _ h
theorem sB {a b : Bool} (h : a = b) : D.s (.bool a) = .s (.bool b) := by rw [h]
theorem FCon.ofStr {f : FuncId} {fn : Func} {c : Code} (hf : Tryz.prog.funcs[f]? = some fn) (hname : (fn.name == "runtime.NumGoroutine") = false) (hb : fn.body = some c) (s : ByteArray) (b : Bool) (h : ∀ w, Calls Tryz.prog f #[.string s] w fun e w' => e = .returned (.bool b) /\ Below w.heap.size w w') : FCon Tryz.prog f [.s (.string s)] (fun r _ => r = .s (.bool b)) := by
 refine FCon.ofBelow (Rv := fun v => v = .bool b) hf hname hb ?_ rfl ?_
 ·rintro _ rfl; exact ⟨rfl, rfl⟩
 ·intro w S up vs hl hv
  obtain ⟨v, rfl, h'⟩ := XH (P := fun _ d u => RB S up w d u) hl hv
  have := Rep.s_inv (show Rep S up w none (.s (.string s)) v from h')
  subst this
  exact (h w).mono fun e w' h => ⟨_, h.1, rfl, h.2⟩
theorem wE (s : ByteArray) (hs : s.size <= maxLen) : FCon Tryz.prog 43 [.s (.string s)] (fun r _ => r = .s (.bool (yl s))) := FCon.ofStr Tryz.func43 rfl rfl s _ fun w => QO w s hs
theorem xr (s : ByteArray) (hs : s.size <= maxLen) : FCon Tryz.prog 47 [.s (.string s)] (fun r _ => r = .s (.bool (yl s))) := FCon.ofStr Tryz.func47 rfl rfl s _ fun w => QW w s hs
theorem yn (n lo hi : Int) : FCon Tryz.prog 65 [.s (.int .i64 n), .s (.int .i64 lo), .s (.int .i64 hi)] (fun r _ => r = .s (.bool (decide (lo <= n) && decide (n <= hi)))) := by
 refine FI PM Tryz.func65 Tryz.ntmps65 [] rfl rfl ?_
 (have hWf := f0; repeat' (first | refine zS ?_ | refine zI ?_ ?_ | exact zF0 | refine zD fun hb => ?_ | exact zC | refine zT ?_ | fail))
 all_goals exact sB (by simp_all)
theorem wq (s : ByteArray) (hs : s.size <= maxLen) : FCon Tryz.prog 179 [.s (.string s)] (fun r _ => r = .s (.bool (conM s.data.toList))) := FCon.ofStr Tryz.func179 rfl rfl s _ fun w => (xaA w s hs).mono fun e w' ⟨q1, q2⟩ => ⟨q1, q2 ▸ Below.refl _ _⟩
theorem yy (s : ByteArray) (hs : s.size <= maxLen) : FCon Tryz.prog 110 [.s (.string s)] (fun r _ => r = .s (.bool (conM s.data.toList))) := FCon.ofStr Tryz.func110 rfl rfl s _ fun w => (xa0 w s hs).mono fun e w' ⟨q1, q2⟩ => ⟨q1, q2 ▸ Below.refl _ _⟩
theorem lit0 : (⟨#[]⟩ : ByteArray).toList = [] := by kernel_rfl
end Go.Proofs.YtgcdbmcoendcdaaGreat
namespace Go.Proofs.YtgcdbmcoendcdaaGreat
def fidx {α : Type} (p : α -> Bool) : List α -> Int
 | [] => -1
 | x :: l => if p x = true then 0 else if fidx p l < 0 then -1 else fidx p l + 1
theorem fidx_ge {α : Type} (p : α -> Bool) : ∀ (l : List α), -1 <= fidx p l
 | [] => by simp [fidx]
 | x :: l => by
  have := fidx_ge p l
  rw [fidx]; split <;> (try split) <;> omega
theorem W7 {α : Type} (p : α -> Bool) : ∀ (l : List α) (k : Nat) (h : k < l.length), (∀ x ∈ l.take k, p x = false) -> p l[k] = true -> fidx p l = k
 | x :: l, 0, _, _, hp => by
  have hp : p x = true := hp
  rw [fidx, if_pos hp]; rfl
 | x :: l, k + 1, h, hn, hp => by
  rw [fidx, if_neg (by rw [hn x (by simp)]; simp), W7 p l k (by simpa using h) (fun y hy => hn y (by simp [hy])) (by simpa using hp)]
  rw [if_neg (by omega)]; omega
theorem W8 {α : Type} (p : α -> Bool) : ∀ (l : List α), (∀ x ∈ l, p x = false) -> fidx p l = -1
 | [], _ => rfl
 | x :: l, h => by rw [fidx, if_neg (by rw [h x (by simp)]; simp), W8 p l (fun y hy => h y (by simp [hy]))]; rfl
theorem ZN {α : Type} (p : α -> Bool) : ∀ (l : List α), decide (fidx p l ≥ 0) = l.any p
 | [] => rfl
 | x :: l => by
  rw [fidx, List.any_cons, <- ZN p l]
  by_cases h : p x = true
  ·rw [if_pos h, h]; rfl
  ·rw [if_neg h]
   have : p x = false := by simpa using h
   rw [this, Bool.false_or]
   have := fidx_ge p l
   by_cases q : fidx p l < 0
   ·rw [if_pos q, decide_eq_false (by omega), decide_eq_false (by omega)]
   ·rw [if_neg q, decide_eq_true (by omega), decide_eq_true (by omega)]
theorem take_no {α : Type} {p : α -> Bool} {xs : List α} {k : Nat} (h : k < xs.length) (hno : ∀ x ∈ xs.take k, p x = false) (hk : p xs[k] = false) : ∀ x ∈ xs.take (k + 1), p x = false := by
 intro x hx
 rw [List.take_succ_eq_append_getElem h] at hx
 rcases List.mem_append.1 hx with hx | hx
 ·exact hno x hx
 ·simp at hx; rw [hx]; exact hk
end Go.Proofs.YtgcdbmcoendcdaaGreat
namespace Go.Proofs.YtgcdbmcoendcdaaGreat
open Go.RowKit
def stE (p : ByteArray) : List D := [.s (.string p)]
theorem yH (p : ByteArray) : stE p = [.s (.string p)] := rfl
theorem Qs (xs : List ByteArray) (v : ByteArray) : FCon Tryz.prog 182 [.sl 1 (xs.map stE), .s (.string v)] (fun r _ => r = .s (.int .i64 (yW v xs))) := by
 refine FI PM Tryz.func182 Tryz.ntmps182 [] rfl rfl ?_
 refine y4 0 rfl trivial fun hlen => ?_
 simp only [List.length_map] at hlen
 (have hWf := f0; repeat' (first | refine zS ?_ | refine zI ?_ ?_ | exact zF0 | refine zD fun hb => ?_ | exact zC | refine zT ?_ | fail))
 refine xk (fun n σ => ∃ k : Nat, k <= xs.length /\ n = xs.length - k /\ σ.t 0 = .sl 1 (xs.map stE) /\ σ.t 1 = .s (.string v) /\ σ.t 7 = .s (.int .i64 xs.length) /\ σ.t 8 = .s (.int .i64 k) /\ ∀ j, j < k -> xs[j]? ≠ some v) xs.length ⟨0, by omega, by omega, ?_⟩ ?_
 ·simp only [go_sem, simprocAttr, Int.natCast_zero]
  all_goals simp
 ·rintro n σ ⟨k, hk, rfl, h0, h1, h7, h8, hno⟩ K' hK
  by_cases hlt : k < xs.length
  ·have hx := xh stE xs k hlt
   have he := yH xs[k]
   by_cases hp : v = xs[k]
   ·have hp' := z9 hp
    have hv := ZR hlt hno (by rw [List.getElem?_eq_getElem hlt, <- hp])
    (have hWf := w7 @h0 @h1 @h7 @h8 @hx @he @hp'; repeat' (first | refine zS ?_ | refine zI ?_ ?_ | exact zF0 | refine zD fun hb => ?_ | exact zC | refine zT ?_ | fail))
    exact yp hv.symm
   ·have hp' := zq hp
    (have hWf := w7 @h0 @h1 @h7 @h8 @hx @he @hp'; repeat' (first | refine zS ?_ | refine zI ?_ ?_ | exact zF0 | refine zD fun hb => ?_ | exact zC | refine zT ?_ | fail))
    refine hK (xs.length - (k + 1)) _ (by omega) ⟨k + 1, by omega, rfl, ?_⟩
    simp only [go_sem, simprocAttr, h0, h1, h7, Int.natCast_succ]
    intro j hj
    rcases Nat.lt_or_eq_of_le (Nat.le_of_lt_succ hj) with q | q
    ·exact hno j q
    ·subst q; rw [List.getElem?_eq_getElem hlt]; exact fun e => hp (Option.some.inj e).symm
  ·obtain rfl : k = xs.length := by omega
   (have hWf := w4 @h0 @h1 @h7 @h8; repeat' (first | refine zS ?_ | refine zI ?_ ?_ | exact zF0 | refine zD fun hb => ?_ | exact zC | refine zT ?_ | fail))
   exact yp (X3 hno).symm
theorem zk (xs : List ByteArray) (v : ByteArray) : FCon Tryz.prog 103 [.sl 1 (xs.map stE), .s (.string v)] (fun r _ => r = .s (.bool (inL v xs))) := by
 refine FI PM Tryz.func103 Tryz.ntmps103 [] rfl rfl ?_
 (have hWf := f0; repeat' (first | refine zS ?_ | refine zI ?_ ?_ | refine zK (Qs xs v) ?_ | exact zF0 | refine zD fun hb => ?_ | exact zC | refine zT ?_ | fail))
 exact sB (US v xs)
theorem xd (xs : List ByteArray) : xJ (xs.map stE) = xs.map stE := ye (fun _ => rfl) xs
theorem toL_inj {a b : ByteArray} (h : a.toList = b.toList) : a = b := by
 rw [ByteArray.toList_eq, ByteArray.toList_eq] at h
 cases a; cases b
 simpa using h
theorem y9 {α : Type} {p : α -> Bool} {l : List α} {k : Nat} (h : k < l.length) (hp : p l[k] = false) : l.all p = false := by
 rw [List.all_eq_false]
 exact ⟨l[k], List.getElem_mem h, by rw [hp]; simp⟩
theorem x6 {α : Type} {p : α -> Bool} {l : List α} (h : ∀ x ∈ l.take l.length, p x = true) : l.all p = true := List.all_eq_true.2 (by simpa using h)
theorem xL {α : Type} {p : α -> Prop} {l : List α} {k : Nat} (h : k < l.length) (h1 : ∀ x ∈ l.take k, p x) (h2 : p l[k]) : ∀ x ∈ l.take (k + 1), p x := by
 intro x hx
 rw [List.take_succ_eq_append_getElem h] at hx
 rcases List.mem_append.1 hx with hx | hx
 ·exact h1 x hx
 ·simp at hx; rw [hx]; exact h2
def primL : List (List UInt8) := [[43], [45], [42], [47], [37], [94], [61], [60, 62], [60], [60, 61]]
def Xh (s : ByteArray) : Bool := primL.any fun l => s.toList == l
def yN : List ByteArray := primL.map fun l => ⟨l.toArray⟩
theorem primM_in (s : ByteArray) : inL s yN = Xh s := by
 rw [Bool.eq_iff_iff, uT]
 unfold Xh yN
 simp only [List.mem_map, List.any_eq_true, beq_iff_eq]
 constructor
 ·rintro ⟨l, hl, rfl⟩
  exact ⟨l, hl, by rw [ByteArray.toList_eq]⟩
 ·rintro ⟨l, hl, e⟩
  exact ⟨l, hl, toL_inj (by rw [ByteArray.toList_eq, e])⟩
theorem um : FCon Tryz.prog 150 [] (fun r _ => r = .osl 9 1 (yN.map stE)) := by
 refine FI PM Tryz.func150 Tryz.ntmps150 [] rfl rfl ?_
 (have hWf := f0; repeat' (first | refine zS ?_ | refine zI ?_ ?_ | exact zF0 | refine zD fun hb => ?_ | exact zC | refine zT ?_ | fail))
 rfl
theorem vF (s : ByteArray) : FCon Tryz.prog 103 [.sl 1 (yN.map stE), .s (.string s)] (fun r _ => r = .s (.bool (Xh s))) := by
 rw [<- primM_in]; exact zk yN s
theorem ul (s : ByteArray) : FCon Tryz.prog 112 [.s (.string s)] (fun r _ => r = .s (.bool (Xh s))) := by
 have hpm : Xh s = yN.any fun x => s.toList == x.toList := by
  unfold Xh yN
  rw [List.any_map]
  congr 1
  funext l
  show _ = (s.toList == (⟨l.toArray⟩ : ByteArray).toList)
  rw [ByteArray.toList_eq (bs := ⟨l.toArray⟩)]
 rw [hpm]
 have hpl : yN.length = 10 := rfl
 refine FI PM Tryz.func112 Tryz.ntmps112 [] rfl rfl ?_
 (have hWf := f0; repeat' (first | refine zS ?_ | refine zI ?_ ?_ | exact zF0 | refine zD fun hb => ?_ | exact zC | refine zT ?_ | fail))
 refine xk (fun n σ => ∃ k : Nat, k <= yN.length /\ n = yN.length - k /\ σ.t 0 = .s (.string s) /\ σ.t 5 = .bs 5 1 yN.length /\ σ.b 5 = some (.arr 9 1 (yN.map stE)) /\ σ.t 6 = .s (.int .i64 yN.length) /\ σ.t 7 = .s (.int .i64 k) /\ ∀ x ∈ yN.take k, (s.toList == x.toList) = false) yN.length ⟨0, by omega, by omega, ?_⟩ ?_
 ·simp only [go_sem, simprocAttr]
  exact ⟨by rw [hpl], rfl, by rw [hpl]; rfl⟩
 ·rintro n σ ⟨k, hk, rfl, h0, h5, hb5, h6, h7, hno⟩ K' hK
  by_cases hlt : k < yN.length
  ·have hx := xh stE yN k hlt
   have he := yH yN[k]
   cases hq : (s.toList == yN[k].toList) with
   | true =>
    (have hWf := w8 @h0 @h5 @hb5 @h6 @h7 @hx @he @hq; repeat' (first | refine zS ?_ | refine zI ?_ ?_ | exact zF0 | refine zD fun hb => ?_ | exact zC | refine zT ?_ | fail))
    exact sB (List.any_eq_true.2 ⟨yN[k], List.getElem_mem hlt, hq⟩).symm
   | false =>
    (have hWf := w8 @h0 @h5 @hb5 @h6 @h7 @hx @he @hq; repeat' (first | refine zS ?_ | refine zI ?_ ?_ | exact zF0 | refine zD fun hb => ?_ | exact zC | refine zT ?_ | fail))
    refine hK (yN.length - (k + 1)) _ (by omega) ⟨k + 1, by omega, rfl, ?_⟩
    simp only [go_sem, simprocAttr, h0, h5, hb5, h6, Int.natCast_succ]
    exact xL hlt hno hq
  ·obtain rfl : k = yN.length := by omega
   (have hWf := w5 @h0 @h5 @hb5 @h6 @h7; repeat' (first | refine zS ?_ | refine zI ?_ ?_ | exact zF0 | refine zD fun hb => ?_ | exact zC | refine zT ?_ | fail))
   exact sB (List.any_eq_false.2 (fun x hx => by have := hno x (by simpa using hx); rw [this]; simp)).symm
theorem lit3 : (⟨#[114, 101, 102]⟩ : ByteArray).toList = [114, 101, 102] := by kernel_rfl
theorem lit2 : (⟨#[45, 62]⟩ : ByteArray).toList = [45, 62] := by kernel_rfl
theorem lit1 : (⟨#[42]⟩ : ByteArray).toList = [42] := by kernel_rfl
theorem c_tyName (x : TyI) (hx : x.ok) (h0 : 0 <= x.ar) (h1 : x.ar <= 2) (h2 : x.v = 0) (h3 : x.name.toList.isEmpty = false) : FCon Tryz.prog 256 [.ag x.enc] (fun r _ => r = .s (.bool (yv x))) := by
 refine FI PM Tryz.func256 Tryz.ntmps256 [] rfl rfl ?_
 (have hWf := w4 @TyI.enc_eq @lit1 @lit2 @lit3; repeat' (first | refine zS ?_ | refine zI ?_ ?_ | ((with_reducible apply xc); refine zG (wE _ hx.2.1) ?_) | ((with_reducible apply xl); refine xi (wE _ hx.2.1) ?_) | exact zF0 | refine zD fun hb => ?_ | exact zC | refine zT ?_ | fail))
 all_goals exact sB (by unfold yv; simp_all)
theorem UE (x : TyI) (hx : x.ok) : FCon Tryz.prog 184 [.ag x.enc] (fun r _ => r = .s (.bool (yv x))) := by
 refine FI PM Tryz.func184 Tryz.ntmps184 [] rfl rfl ?_
 (have hWf := w5 @TyI.enc_eq @lit0 @lit1 @lit2 @lit3; repeat' (first | refine zS ?_ | refine zI ?_ ?_ | ((with_reducible apply xc); refine zG (xr _ hx.2.1) ?_) | ((with_reducible apply xl); refine xi (xr _ hx.2.1) ?_) | exact zF0 | refine zD fun hb => ?_ | exact zC | refine zT ?_ | fail))
 all_goals exact sB (by unfold yv; simp_all; try omega)
theorem decLe {a b : Nat} : decide ((a : Int) <= (b : Int)) = decide (a <= b) := by rw [Bool.eq_iff_iff]; simp
theorem decLe200 {a : Nat} : decide ((a : Int) <= 200) = decide (a <= 200) := decLe (b := 200)
theorem Vc {l : List UInt8} (h : l.isEmpty = false) : (l == []) = false := by cases l <;> simp_all
theorem c_tyOk (xs : List TyI) (ho : ∀ x ∈ xs, x.ok) (hl : xs.length <= 1048576) : FCon Tryz.prog 235 [.sl 3 (xs.map TyI.enc)] (fun r _ => r = .s (.bool (zQ xs))) := by
 refine FI PM Tryz.func235 Tryz.ntmps235 [] rfl rfl ?_
 (have hWf := f0; repeat' (first | refine zS ?_ | refine zI ?_ ?_ | exact zF0 | refine zD fun hb => ?_ | exact zC | refine zT ?_ | fail))
 refine xk (fun n σ => ∃ k m : Nat, k <= xs.length /\ n = xs.length - k /\ σ.t 3 = .s (.int .i64 m) /\ σ.t 6 = .sl 3 (xs.map TyI.enc) /\ σ.t 7 = .s (.int .i64 xs.length) /\ σ.t 8 = .s (.int .i64 k) /\ m <= 1 + 2 * k /\ wN xs k m = zQ xs) xs.length ⟨0, 1, by omega, by omega, ?_⟩ ?_
 ·simp only [go_sem, simprocAttr, Int.natCast_zero, Int.natCast_one, QS]
 ·rintro n σ ⟨k, m, hk, rfl, h3, h6, h7, h8, hm, hr⟩ K' hK
  by_cases hlt : k < xs.length
  ·have hx := xh TyI.enc xs k hlt
   have he := TyI.enc_eq xs[k]
   have hox := ho _ (List.getElem_mem hlt)
   rcases Nat.eq_zero_or_pos m with rfl | hm0
   ·(have hWf := w7 @h3 @h6 @h7 @h8 @hx @he @Int.natCast_zero; repeat' (first | refine zS ?_ | refine zI ?_ ?_ | exact zF0 | refine zD fun hb => ?_ | exact zC | refine zT ?_ | fail))
    exact sB (by rw [<- hr, xaP xs k hlt])
   ·obtain ⟨m, rfl⟩ : ∃ j, m = j + 1 := ⟨m - 1, by omega⟩
    have hm1 : (((m + 1 : Nat) : Int) == 0) = false := by simp; omega
    have hbad : yv xs[k] = false -> false = zQ xs := fun h => by rw [<- hr, restM_bad xs k _ hlt h]
    have hgood : yv xs[k] = true -> wN xs (k + 1) (m + xs[k].ar.toNat) = zQ xs := fun h => by rw [<- hr, xaO xs k m hlt h]
    clear hr
    by_cases hn : xs[k].name.toList.isEmpty
    ·have hI : yv xs[k] = (decide (0 <= xs[k].v) && decide (xs[k].v <= 9999) && (xs[k].ar == 0)) := by unfold yv; rw [if_pos hn]
     have hn' : xs[k].name.toList = [] := by simpa using hn
     (have hWf := w9 @h3 @h6 @h7 @h8 @hx @he @hm1 @lit0 @hn'; repeat' (first | refine zS ?_ | refine zI ?_ ?_ | refine zK (yn xs[k].v 0 9999) ?_ | exact zF0 | refine zD fun hb => ?_ | exact zC | refine zT ?_ | fail))
     ·exact sB (hbad (by rw [hI]; simp at hb ⊢; omega))
     ·have hit : yv xs[k] = true := by rw [hI]; simp at hb ⊢; omega
      have ha : xs[k].ar = 0 := by rw [hI] at hit; simp at hit; omega
      refine hK (xs.length - (k + 1)) _ (by omega) ⟨k + 1, m, by omega, rfl, ?_⟩
      simp only [go_sem, simprocAttr, h3, h6, h7, h8, Int.natCast_succ]
      exact ⟨yp (by omega), by omega, by simpa [ha] using hgood hit⟩
    ·have hn' : xs[k].name.toList.isEmpty = false := by simpa using hn
     have hn2 := Vc hn'
     by_cases hv : xs[k].v = 0
     ·have hv' : (xs[k].v != 0) = false := by simp [hv]
      by_cases ha : 0 <= xs[k].ar /\ xs[k].ar <= 2
      ·have ha1 : decide (0 <= xs[k].ar) = true := decide_eq_true ha.1
       have ha2 : decide (xs[k].ar <= 2) = true := decide_eq_true ha.2
       (have hWf := w12 @h3 @h6 @h7 @h8 @hx @he @hm1 @lit0 @hn2 @hv' @ha1 @ha2; repeat' (first | refine zS ?_ | refine zI ?_ ?_ | refine zK (yn xs[k].ar 0 2) ?_ | refine zK (c_tyName xs[k] hox ha.1 ha.2 hv hn') ?_ | exact zF0 | refine zD fun hb => ?_ | exact zC | refine zT ?_ | fail))
       ·exact sB (hbad (by simpa using hb))
       ·refine hK (xs.length - (k + 1)) _ (by omega) ⟨k + 1, m + xs[k].ar.toNat, by omega, rfl, ?_⟩
        simp only [go_sem, simprocAttr, h3, h6, h7, h8, Int.natCast_succ]
        exact ⟨yp (by push_cast; omega), by omega, hgood (by simpa using hb)⟩
      ·have ha' : (decide (0 <= xs[k].ar) && decide (xs[k].ar <= 2)) = false := by simp; omega
       (have hWf := w11 @h3 @h6 @h7 @h8 @hx @he @hm1 @lit0 @hn2 @hv' @ha'; repeat' (first | refine zS ?_ | refine zI ?_ ?_ | refine zK (yn xs[k].ar 0 2) ?_ | exact zF0 | refine zD fun hb => ?_ | exact zC | refine zT ?_ | fail))
       all_goals exact sB (hbad (by cases hI : yv xs[k] with | false => rfl | true => exact absurd (VQ hI) ha))
     ·have hv' : (xs[k].v != 0) = true := by simp [hv]
      (have hWf := w10 @h3 @h6 @h7 @h8 @hx @he @hm1 @lit0 @hn2 @hv'; repeat' (first | refine zS ?_ | refine zI ?_ ?_ | refine zK (yn xs[k].ar 0 2) ?_ | exact zF0 | refine zD fun hb => ?_ | exact zC | refine zT ?_ | fail))
      all_goals exact sB (hbad (by unfold yv; simp [hn', hv]))
  ·obtain rfl : k = xs.length := by omega
   (have hWf := w4 @h3 @h6 @h7 @h8; repeat' (first | refine zS ?_ | refine zI ?_ ?_ | exact zF0 | refine zD fun hb => ?_ | exact zC | refine zT ?_ | fail))
   refine sB ?_
   rw [<- hr, restM_end xs _ m rfl, Bool.eq_iff_iff, beq_iff_eq, decide_eq_true_eq]
   omega
theorem yQ (xs : List TyI) (ho : ∀ x ∈ xs, x.ok) (hl : xs.length <= 1048576) : FCon Tryz.prog 180 [.ag [.sl 3 (xs.map TyI.enc)]] (fun r _ => r = .s (.bool (wZ xs))) := by
 refine FI PM Tryz.func180 Tryz.ntmps180 [] rfl rfl ?_
 (have hWf := f0; repeat' (first | refine zS ?_ | refine zI ?_ ?_ | refine zK (c_tyOk xs ho hl) ?_ | exact zF0 | refine zD fun hb => ?_ | exact zC | refine zT ?_ | fail))
 all_goals exact sB (by unfold wZ; rw [decLe200])
theorem VR {xs : List TyI} (h : xs.all yv = true) : ∀ x ∈ xs, 0 <= x.ar /\ x.ar <= 2 := fun x hx => VQ (List.all_eq_true.1 h x hx)
theorem ZG : ∀ (n : Nat) (xs : List TyI) (hit : ∀ x ∈ xs, 0 <= x.ar /\ x.ar <= 2) (hl : xs.length <= 1048576) (k : Nat), xs.length - k <= n -> FCon Tryz.prog 185 [.ag [.sl 3 (xs.map TyI.enc)], .s (.int .i64 k)] (fun r _ => r = .s (.int .i64 (endM xs k)))
 | n, xs, hit, hl, k, hn => by
  by_cases hk : k < xs.length
  ·have hx := xh TyI.enc xs k hk
   have he := TyI.enc_eq xs[k]
   have hxi := hit _ (List.getElem_mem hk)
   have hb0 : decide ((k : Int) < 0) = false := by simp
   have hb1 : decide ((k : Int) ≥ xs.length) = false := by simp; omega
   obtain ⟨n, rfl⟩ : ∃ j, n = j + 1 := ⟨n - 1, by omega⟩
   have ih := ZG n xs hit hl
   refine FI PM Tryz.func185 Tryz.ntmps185 [] rfl rfl ?_
   (have hWf := w2 @hb0 @hb1; repeat' (first | refine zS ?_ | refine zI ?_ ?_ | exact zF0 | refine zD fun hb => ?_ | exact zC | refine zT ?_ | fail))
   refine xk (fun n' σ => ∃ i : Nat, (i : Int) <= xs[k].ar /\ n' = xs[k].ar.toNat - i /\ σ.t 1 = .s (.int .i64 k) /\ σ.t 2 = .bx 2 0 /\ σ.b 2 = some (.box [.sl 3 (xs.map TyI.enc)]) /\ σ.t 5 = .s (.int .i64 (yT xs (k + 1) i)) /\ σ.t 6 = .s (.int .i64 i)) xs[k].ar.toNat ⟨0, by omega, by omega, ?_⟩ ?_
   ·simp only [go_sem, simprocAttr, Int.natCast_zero, WI, Int.natCast_succ]
   ·rintro n' σ ⟨i, hi, rfl, h1, h2, h9, h5, h6⟩ K' hK
    have hbd := endsM_bd xs (k + 1) i (by omega)
    by_cases hlt : (i : Int) < xs[k].ar
    ·rcases hbd with hneg | ⟨m, hm, hm1, hm2⟩
     ·rw [hneg] at h5
      (have hWf := w7 @h1 @h2 @h9 @h5 @h6 @hx @he; repeat' (first | refine zS ?_ | refine zI ?_ ?_ | exact zF0 | refine zD fun hb => ?_ | exact zC | refine zT ?_ | fail))
      exact yp (by rw [UN xs k hk, endsM_neg xs (k + 1) i (by omega) _ (by omega)])
     ·rw [hm] at h5
      have hsc := xao xs (k + 1) i m hm
      (have hWf := w7 @h1 @h2 @h9 @h5 @h6 @hx @he; repeat' (first | refine zS ?_ | refine zI ?_ ?_ | ((with_reducible apply xc); refine zG (ih m (by omega)) ?_) | refine zU (ih m (by omega)) ?_ | exact zF0 | refine zD fun hb => ?_ | exact zC | refine zT ?_ | fail))
      refine hK (xs[k].ar.toNat - (i + 1)) _ (by omega) ⟨i + 1, by omega, rfl, ?_⟩
      simp only [go_sem, simprocAttr, h1, h2, h9, h5, h6, Int.natCast_succ, hsc]
    ·(have hWf := w7 @h1 @h2 @h9 @h5 @h6 @hx @he; repeat' (first | refine zS ?_ | refine zI ?_ ?_ | exact zF0 | refine zD fun hb => ?_ | exact zC | refine zT ?_ | fail))
     exact yp (by rw [UN xs k hk]; congr 1; omega)
  ·refine FI PM Tryz.func185 Tryz.ntmps185 [] rfl rfl ?_
   (have hWf := f0; repeat' (first | refine zS ?_ | refine zI ?_ ?_ | exact zF0 | refine zD fun hb => ?_ | exact zC | refine zT ?_ | fail))
   exact yp (endM_end xs k (by omega)).symm
theorem all_false {xs : List TyI} {k : Nat} (h : k < xs.length) (hb : yv xs[k] = false) : wZ xs = false := by
 unfold wZ zQ
 have : xs.all yv = false := List.all_eq_false.2 ⟨xs[k], List.getElem_mem h, by simp [hb]⟩
 rw [this]; simp
theorem Vb {xs : List TyI} {k : Nat} (h : k < xs.length) (ha : (xs.take k).all yv = true) (hb : yv xs[k] = true) : (xs.take (k + 1)).all yv = true := by
 rw [List.take_succ_eq_append_getElem h, List.all_append, ha, List.all_cons, hb]; rfl
theorem WD (xs : List TyI) (ho : ∀ x ∈ xs, x.ok) (hl : xs.length <= 1048576) : FCon Tryz.prog 111 [.ag [.sl 3 (xs.map TyI.enc)]] (fun r _ => r = .s (.bool (wZ xs))) := by
 by_cases h2 : xs.length <= 200
 ·have h2' : wZ xs = zQ xs := by unfold wZ; rw [decide_eq_true h2]; rfl
  refine FI PM Tryz.func111 Tryz.ntmps111 [(9, 5, [], [], (lin [] [0, 1, 2, 3, 4]))] rfl rfl ?_
  (have hWf := f0; repeat' (first | refine zS ?_ | refine zI ?_ ?_ | exact zF0 | refine zD fun hb => ?_ | exact zC | refine zT ?_ | fail))
  refine xk (fun n σ => ∃ k : Nat, k <= xs.length /\ n = xs.length - k /\ σ.t 1 = .bx 1 0 /\ σ.b 1 = some (.box [.sl 3 (xs.map TyI.enc)]) /\ σ.t 10 = .sl 3 (xs.map TyI.enc) /\ σ.t 11 = .s (.int .i64 xs.length) /\ σ.t 12 = .s (.int .i64 k) /\ (xs.take k).all yv = true) xs.length ⟨0, by omega, by omega, ?_⟩ ?_
  ·simp only [go_sem, simprocAttr, Int.natCast_zero, List.take_zero, List.all_nil]
  ·rintro n σ ⟨k, hk, rfl, h1, h9, h10, h11, h12, ha⟩ K' hK
   by_cases hlt : k < xs.length
   ·have hx := xh TyI.enc xs k hlt
    have he := TyI.enc_eq xs[k]
    (have hWf := w7 @h1 @h9 @h10 @h11 @h12 @hx @he; repeat' (first | refine zS ?_ | refine zI ?_ ?_ | ((with_reducible apply xc); refine zG (UE xs[k] (ho _ (List.getElem_mem hlt))) ?_) | ((with_reducible apply xl); refine xi (UE xs[k] (ho _ (List.getElem_mem hlt))) ?_) | exact zF0 | refine zD fun hb => ?_ | exact zC | refine zT ?_ | fail))
    ·exact sB (all_false hlt hb).symm
    ·refine hK (xs.length - (k + 1)) _ (by omega) ⟨k + 1, by omega, rfl, ?_⟩
     simp only [go_sem, simprocAttr, h1, h9, h10, h11, h12, Int.natCast_succ]
     exact Vb hlt ha hb
   ·obtain rfl : k = xs.length := by omega
    rw [List.take_length] at ha
    (have hWf := w5 @h1 @h9 @h10 @h11 @h12; repeat' (first | refine zS ?_ | refine zI ?_ ?_ | ((with_reducible apply xc); refine zG (ZG xs.length xs (VR ha) hl 0 (by omega)) ?_) | refine zU (ZG xs.length xs (VR ha) hl 0 (by omega)) ?_ | exact zF0 | refine zD fun hb => ?_ | exact zC | refine zT ?_ | fail))
    refine sB ?_
    rw [h2', zQ, ha, Bool.true_and, Bool.eq_iff_iff]
    simp
 ·refine FI PM Tryz.func111 Tryz.ntmps111 [(9, 5, [], [], (lin [] [0, 1, 2, 3, 4]))] rfl rfl ?_
  (have hWf := f0; repeat' (first | refine zS ?_ | refine zI ?_ ?_ | exact zF0 | refine zD fun hb => ?_ | exact zC | refine zT ?_ | fail))
  exact sB (by unfold wZ; rw [decide_eq_false h2]; rfl)
theorem xq (n : Int) : FCon Tryz.prog 183 [.s (.int .u8 n)] (fun r _ => r = .s (.int .i64 (clsI n))) := by
 refine FI PM Tryz.func183 Tryz.ntmps183 [] rfl rfl ?_
 (have hWf := f0; repeat' (first | refine zS ?_ | refine zI ?_ ?_ | exact zF0 | refine zD fun hb => ?_ | exact zC | refine zT ?_ | fail))
 all_goals exact yp (by unfold clsI lowI uppI digI; grind)
theorem toNat_add (i p : Nat) : ((i : Int) + (p : Int)).toNat = i + p := by omega
theorem x7 (s : ByteArray) (i : Nat) (p : ByteArray) (hs : s.size <= 1048576) (hi : i <= 1048578) (hp : p.size <= 1048576) : FCon Tryz.prog 190 [.s (.string s), .s (.int .i64 i), .s (.string p)] (fun r _ => r = .s (.bool (hasM s p i))) := by
 by_cases hh : i + p.size <= s.size
 ·have h1 : decide ((i : Int) <= (s.size : Int) - (p.size : Int)) = true := by simp; omega
  refine FI PM Tryz.func190 Tryz.ntmps190 [] rfl rfl ?_
  (have hWf := w2 @h1 @toNat_add; repeat' (first | refine zS ?_ | refine zI ?_ ?_ | exact zF0 | refine zD fun hb => ?_ | exact zC | refine zT ?_ | fail))
  exact sB (by unfold hasM; simp [hh])
 ·have h1 : decide ((i : Int) <= (s.size : Int) - (p.size : Int)) = false := by simp; omega
  refine FI PM Tryz.func190 Tryz.ntmps190 [] rfl rfl ?_
  (have hWf := w1 @h1; repeat' (first | refine zS ?_ | refine zI ?_ ?_ | exact zF0 | refine zD fun hb => ?_ | exact zC | refine zT ?_ | fail))
  exact sB (by unfold hasM; simp [hh])
theorem xX (s : ByteArray) (k : Nat) : ((s.data.toList.getD k 0).toNat : Int) = bAt s k := rfl
theorem ww {a b : Nat} (h : a < b) : decide ((a : Int) < (b : Int)) = true := by simp; omega
theorem uU {a b : Nat} (h : ¬ a < b) : decide ((a : Int) < (b : Int)) = false := by simp; omega
theorem natI_ge {a b : Nat} (h : b <= a) : decide ((a : Int) ≥ (b : Int)) = true := by simp; omega
theorem natI_nge {a b : Nat} (h : ¬ b <= a) : decide ((a : Int) ≥ (b : Int)) = false := by simp; omega
theorem noB_eq : noB = ⟨#[]⟩ := rfl
theorem cast1 (k : Nat) : ((k + 1 : Nat) : Int) = (k : Int) + 1 := by omega
theorem cast2 (k : Nat) : ((k + 2 : Nat) : Int) = (k : Int) + 2 := by omega
theorem castp {d : Nat} (h : 1 <= d) : ((d - 1 : Nat) : Int) = (d : Int) - 1 := by omega
theorem y3 (k : Nat) : ((k : Int) + 1).toNat = k + 1 := by omega
theorem Qv (s : ByteArray) (i : Nat) (hs : s.size <= 1048576) (hi : i < s.size) (hl : hasM s lpB i = true) : FCon Tryz.prog 191 [.s (.string s), .s (.int .i64 i)] (fun r _ => r = .s (.int .i64 (match remM s i with | some j => (j : Int) | none => -1))) := by
 refine FI PM Tryz.func191 Tryz.ntmps191 [] rfl rfl ?_
 (have hWf := f0; repeat' (first | refine zS ?_ | refine zI ?_ ?_ | exact zF0 | refine zD fun hb => ?_ | exact zC | refine zT ?_ | fail))
 refine xk (fun n σ => ∃ f k d : Nat, n = f /\ s.size + 1 <= f + k /\ i <= k /\ k <= s.size + 1 /\ d <= k /\ (1 <= d \/ (d = 0 /\ hasM s lpB k = true /\ k < s.size)) /\ remF s f k d = remM s i /\ σ.t 0 = .s (.string s) /\ σ.t 1 = .s (.int .i64 k) /\ σ.t 5 = .s (.int .i64 d)) (s.size + 1) ⟨s.size + 1, i, 0, rfl, by omega, by omega, by omega, by omega, .inr ⟨rfl, hl, hi⟩, rfl, ?_⟩ ?_
 ·simp only [go_sem, simprocAttr, Int.natCast_zero]
 ·rintro n σ ⟨f, k, d, rfl, hf, hik, hk, hdk, hd, hw, h0, h1, h4⟩ K' hK
  by_cases hlt : k < s.size
  ·obtain ⟨f, rfl⟩ : ∃ g, n = g + 1 := ⟨n - 1, by omega⟩
   have hb1 := ww hlt
   cases q1 : hasM s lpB k with
   | true =>
    rw [remF_open hlt q1] at hw
    have hle := Zf q1
    rw [wv] at hle
    (have hWf := w5 @h0 @h1 @h4 @hb1 @q1; repeat' (first | refine zS ?_ | refine zI ?_ ?_ | ((with_reducible apply xc); refine zG (x7 s k lpB hs (by omega) (by rw [wv]; omega)) ?_) | refine zU (x7 s k lpB hs (by omega) (by rw [wv]; omega)) ?_ | exact zF0 | refine zD fun hb => ?_ | exact zC | refine zT ?_ | fail))
    refine hK f _ (by omega) ⟨f, k + 2, d + 1, rfl, by omega, by omega, by omega, by omega, .inl (by omega), hw, ?_⟩
    simp only [go_sem, simprocAttr, h0, h1, h4, cast2 k, cast1 d]
   | false =>
    have hd1 : 1 <= d := by
     rcases hd with q | ⟨_, q, _⟩
     ·exact q
     ·rw [q1] at q; cases q
    cases q2 : hasM s rpB k with
    | true =>
     have hle := Zf q2
     rw [uu] at hle
     by_cases q3 : d = 1
     ·subst q3
      rw [remF_last hlt q1 q2] at hw
      (have hWf := w9 @h0 @h1 @h4 @hb1 @q1 @q2 @hw.symm @Int.natCast_one (cast2 k); repeat' (first | refine zS ?_ | refine zI ?_ ?_ | ((with_reducible apply xc); refine zG (x7 s k lpB hs (by omega) (by rw [wv]; omega)) ?_) | refine zU (x7 s k lpB hs (by omega) (by rw [wv]; omega)) ?_ | ((with_reducible apply xc); refine zG (x7 s k rpB hs (by omega) (by rw [uu]; omega)) ?_) | refine zU (x7 s k rpB hs (by omega) (by rw [uu]; omega)) ?_ | exact zF0 | refine zD fun hb => ?_ | exact zC | refine zT ?_ | fail))
     ·rw [xaN hlt q1 q2 q3] at hw
      have e1 : ((d : Int) - 1 == 0) = false := by simp; omega
      (have hWf := w7 @h0 @h1 @h4 @hb1 @q1 @q2 @e1; repeat' (first | refine zS ?_ | refine zI ?_ ?_ | ((with_reducible apply xc); refine zG (x7 s k lpB hs (by omega) (by rw [wv]; omega)) ?_) | refine zU (x7 s k lpB hs (by omega) (by rw [wv]; omega)) ?_ | ((with_reducible apply xc); refine zG (x7 s k rpB hs (by omega) (by rw [uu]; omega)) ?_) | refine zU (x7 s k rpB hs (by omega) (by rw [uu]; omega)) ?_ | exact zF0 | refine zD fun hb => ?_ | exact zC | refine zT ?_ | fail))
      refine hK f _ (by omega) ⟨f, k + 2, d - 1, rfl, by omega, by omega, by omega, by omega, .inl (by omega), hw, ?_⟩
      simp only [go_sem, simprocAttr, h0, h1, h4, cast2 k, castp hd1]
    | false =>
     rw [remF_pass hlt q1 q2] at hw
     (have hWf := w6 @h0 @h1 @h4 @hb1 @q1 @q2; repeat' (first | refine zS ?_ | refine zI ?_ ?_ | ((with_reducible apply xc); refine zG (x7 s k lpB hs (by omega) (by rw [wv]; omega)) ?_) | refine zU (x7 s k lpB hs (by omega) (by rw [wv]; omega)) ?_ | ((with_reducible apply xc); refine zG (x7 s k rpB hs (by omega) (by rw [uu]; omega)) ?_) | refine zU (x7 s k rpB hs (by omega) (by rw [uu]; omega)) ?_ | exact zF0 | refine zD fun hb => ?_ | exact zC | refine zT ?_ | fail))
     refine hK f _ (by omega) ⟨f, k + 1, d, rfl, by omega, by omega, by omega, by omega, .inl hd1, hw, ?_⟩
     simp only [go_sem, simprocAttr, h0, h1, h4, Int.natCast_succ]
  ·have hb1 := uU hlt
   rw [remF_end (by omega)] at hw
   (have hWf := w5 @h0 @h1 @h4 @hb1 @hw.symm; repeat' (first | refine zS ?_ | refine zI ?_ ?_ | exact zF0 | refine zD fun hb => ?_ | exact zC | refine zT ?_ | fail))
theorem c_l02End (s : ByteArray) (i : Nat) (hs : s.size <= 1048576) (hi : i < s.size) : FCon Tryz.prog 194 [.s (.string s), .s (.int .i64 i)] (fun r _ => r = .s (.int .i64 (match quoE s (i + 1) with | some j => (j : Int) | none => -1))) := by
 refine FI PM Tryz.func194 Tryz.ntmps194 [] rfl rfl ?_
 (have hWf := f0; repeat' (first | refine zS ?_ | refine zI ?_ ?_ | exact zF0 | refine zD fun hb => ?_ | exact zC | refine zT ?_ | fail))
 refine xk (fun n σ => ∃ f k : Nat, n = f /\ s.size <= f + k /\ i <= k /\ k <= s.size + 1 /\ quoF s f k = quoE s (i + 1) /\ σ.t 0 = .s (.string s) /\ σ.t 1 = .s (.int .i64 k)) s.size ⟨s.size, i + 1, rfl, by omega, by omega, by omega, rfl, ?_⟩ ?_
 ·simp only [go_sem, simprocAttr, Int.natCast_succ]
 ·rintro n σ ⟨f, k, rfl, hf, hik, hk, hw, h0, h1⟩ K' hK
  by_cases hlt : k < s.size
  ·obtain ⟨f, rfl⟩ : ∃ g, n = g + 1 := ⟨n - 1, by omega⟩
   have hb1 := ww hlt
   by_cases q1 : bAt s k = 92
   ·rw [quoF_esc hlt q1] at hw
    (have hWf := w5 @h0 @h1 @hb1 @xX @q1; repeat' (first | refine zS ?_ | refine zI ?_ ?_ | exact zF0 | refine zD fun hb => ?_ | exact zC | refine zT ?_ | fail))
    refine hK f _ (by omega) ⟨f, k + 2, rfl, by omega, by omega, by omega, hw, ?_⟩
    simp only [go_sem, simprocAttr, h0, h1]
    exact yp (by omega)
   ·have e1 : (bAt s k == 92) = false := by simpa using q1
    by_cases q2 : bAt s k = 34
    ·rw [quoF_hit hlt q2] at hw
     have hb2 := natI_nge (a := k) (b := s.size) (by omega)
     (have hWf := w7 @h0 @h1 @hb1 @hb2 @xX @q2 @hw.symm; repeat' (first | refine zS ?_ | refine zI ?_ ?_ | exact zF0 | refine zD fun hb => ?_ | exact zC | refine zT ?_ | fail))
    ·have e2 : (bAt s k != 34) = true := by simpa using q2
     rw [quoF_pass hlt q1 q2] at hw
     (have hWf := w6 @h0 @h1 @hb1 @xX @e1 @e2; repeat' (first | refine zS ?_ | refine zI ?_ ?_ | exact zF0 | refine zD fun hb => ?_ | exact zC | refine zT ?_ | fail))
     refine hK f _ (by omega) ⟨f, k + 1, rfl, by omega, by omega, by omega, hw, ?_⟩
     simp only [go_sem, simprocAttr, h0, h1, Int.natCast_succ]
  ·have hb1 := uU hlt
   have hb2 := natI_ge (a := k) (b := s.size) (by omega)
   rw [quoF_end (by omega)] at hw
   (have hWf := w5 @h0 @h1 @hb1 @hb2 @hw.symm; repeat' (first | refine zS ?_ | refine zI ?_ ?_ | exact zF0 | refine zD fun hb => ?_ | exact zC | refine zT ?_ | fail))
theorem xaV : ∀ p ∈ signs, p.size <= 2 := by decide +kernel
theorem signs_len : signs.length = 22 := rfl
def Xk (s : ByteArray) (i k : Nat) : ByteArray := ((signs.drop k).find? fun p => hasM s p i).getD noB
theorem signR_hit {s : ByteArray} {i k : Nat} (h : k < signs.length) (hh : hasM s signs[k] i = true) : Xk s i k = signs[k] := by
 unfold Xk; rw [List.drop_eq_getElem_cons h, List.find?_cons, hh]; rfl
theorem xaU {s : ByteArray} {i k : Nat} (h : k < signs.length) (hh : hasM s signs[k] i = false) : Xk s i k = Xk s i (k + 1) := by
 unfold Xk; rw [List.drop_eq_getElem_cons h, List.find?_cons, hh]
theorem signR_end {s : ByteArray} {i k : Nat} (h : signs.length <= k) : Xk s i k = noB := by
 unfold Xk; rw [List.drop_eq_nil_of_le h]; rfl
theorem c_l02Sign (s : ByteArray) (i : Nat) (hs : s.size <= 1048576) (hi : i < s.size) : FCon Tryz.prog 196 [.s (.string s), .s (.int .i64 i)] (fun r _ => r = .s (.string (yG s i))) := by
 refine FI PM Tryz.func196 Tryz.ntmps196 [] rfl rfl ?_
 (have hWf := f0; repeat' (first | refine zS ?_ | refine zI ?_ ?_ | exact zF0 | refine zD fun hb => ?_ | exact zC | refine zT ?_ | fail))
 refine xk (fun n σ => ∃ k : Nat, k <= 22 /\ n = 22 - k /\ Xk s i k = yG s i /\ σ.t 0 = .s (.string s) /\ σ.t 1 = .s (.int .i64 i) /\ σ.t 7 = .bs 7 1 22 /\ σ.b 7 = some (.arr 9 1 (signs.map stE)) /\ σ.t 8 = .s (.int .i64 (22 : Nat)) /\ σ.t 9 = .s (.int .i64 k)) 22 ⟨0, by omega, by omega, rfl, ?_⟩ ?_
 ·simp only [go_sem, simprocAttr, Int.natCast_zero]
  rfl
 ·rintro n σ ⟨k, hk, rfl, hr, h0, h1, h7, hb7, h8, h9⟩ K' hK
  by_cases hlt : k < 22
  ·have hlt' : k < signs.length := hlt
   have hx := xh stE signs k hlt'
   have he := yH signs[k]
   have hl : ((signs.map stE).length : Nat) = 22 := rfl
   have hb1 := ww hlt
   have hsz := xaV _ (List.getElem_mem hlt')
   cases q : hasM s signs[k] i with
   | true =>
    rw [signR_hit hlt' q] at hr
    (have hWf := w12 @h0 @h1 @h7 @hb7 @h8 @h9 @hx @he @hl @hb1 @q @hr.symm; repeat' (first | refine zS ?_ | refine zI ?_ ?_ | ((with_reducible apply xc); refine zG (x7 s i signs[k] hs (by omega) (by omega)) ?_) | refine zU (x7 s i signs[k] hs (by omega) (by omega)) ?_ | exact zF0 | refine zD fun hb => ?_ | exact zC | refine zT ?_ | fail))
   | false =>
    rw [xaU hlt' q] at hr
    (have hWf := w11 @h0 @h1 @h7 @hb7 @h8 @h9 @hx @he @hl @hb1 @q; repeat' (first | refine zS ?_ | refine zI ?_ ?_ | ((with_reducible apply xc); refine zG (x7 s i signs[k] hs (by omega) (by omega)) ?_) | refine zU (x7 s i signs[k] hs (by omega) (by omega)) ?_ | exact zF0 | refine zD fun hb => ?_ | exact zC | refine zT ?_ | fail))
    refine hK (22 - (k + 1)) _ (by omega) ⟨k + 1, by omega, rfl, hr, ?_⟩
    simp only [go_sem, simprocAttr, h0, h1, h7, hb7, h8, h9, cast1]
  ·obtain rfl : k = 22 := by omega
   rw [signR_end (k := 22) (by rw [signs_len]; omega)] at hr
   (have hWf := w8 @h0 @h1 @h7 @hb7 @h8 @h9 @hr.symm @noB_eq; repeat' (first | refine zS ?_ | refine zI ?_ ?_ | exact zF0 | refine zD fun hb => ?_ | exact zC | refine zT ?_ | fail))
theorem xD (c : Cur) {n : Int} (h : 0 < n) (hn : n <= 4294967296) : ∃ x c', 0 <= x /\ x < n /\ FCon Tryz.prog 53 [c.d, .s (.int .i64 n)] (fun r o => r = .s (.int .i64 x) /\ o = [Cur.d c', .un]) :=
 ⟨(c.below n).1, (c.below n).2, (c.below_bd h).1, (c.below_bd h).2, c_below c n hn⟩
theorem xV (n : Nat) : (no_index (OfNat.ofNat n) : Int).toNat = OfNat.ofNat n := rfl
def StrR (m : Nat) (r : D) : Prop := ∃ s : ByteArray, r = .s (.string s) /\ s.size <= m
theorem Yy (k : Int) (h0 : 0 <= k) (h1 : k < 12) : FCon Tryz.prog 230 [.s (.int .i64 k)] (fun r _ => StrR 1000 r) := by
 have e : k.tmod ((12 : Nat) : Int) = k := Int.tmod_eq_of_lt h0 (by simpa using h1)
 have hk : k = 0 \/ k = 1 \/ k = 2 \/ k = 3 \/ k = 4 \/ k = 5 \/ k = 6 \/ k = 7 \/ k = 8 \/ k = 9 \/ k = 10 \/ k = 11 := by omega
 rcases hk with rfl | rfl | rfl | rfl | rfl | rfl | rfl | rfl | rfl | rfl | rfl | rfl
 all_goals
  refine FI PM Tryz.func230 Tryz.ntmps230 [] rfl rfl ?_
  (have hWf := w2 @e @xV; repeat' (first | refine zS ?_ | refine zI ?_ ?_ | exact zF0 | refine zD fun hb => ?_ | exact zC | refine zT ?_ | fail))
  first | exact ⟨_, rfl, by decide⟩ | trace_state
theorem ob2 {A L : ByteArray} (hA : A.size <= 100000) (hL : L.size <= 100000) : ((A.size + L.size : Nat) : Int) <= 9223372036854775807 := by omega
theorem ob3 {A L C : ByteArray} (hA : A.size <= 100000) (hL : L.size <= 20) (hC : C.size <= 100000) : (((A ++ L).size + C.size : Nat) : Int) <= 9223372036854775807 := by rw [ByteArray.size_append]; omega
theorem st2 {m : Nat} {A C : ByteArray} (h : A.size + C.size <= m) : StrR (m + 20) (.s (.string (A ++ C))) := ⟨_, rfl, by rw [ByteArray.size_append]; omega⟩
theorem st3 {m : Nat} {A L C : ByteArray} (h : A.size + C.size <= m) (hL : L.size <= 20) : StrR (m + 20) (.s (.string (A ++ L ++ C))) := ⟨_, rfl, by rw [ByteArray.size_append, ByteArray.size_append]; omega⟩
theorem int0 : Int.toNat 0 = 0 := rfl
theorem AC_gen {M : Md} {N : Nat} {pl : List (Nat × Plan)} {K : Exit -> St -> Prop} {σ : St} {cd : Code} (id : Nat) {e k : Nat} {rows : List (List D)} (hb : σ.b id = some (.arr e k rows)) (P : List (List D) -> Prop) (hP : P rows) (h : ∀ rows', P rows' -> AC M N pl cd K (σ.setB id (.arr e k rows'))) : AC M N pl cd K σ := by
 have h1 := h rows hP
 have e1 : σ.setB id (.arr e k rows) = σ := by
  cases σ with
  | mk t b =>
   have hb : b id = some (.arr e k rows) := hb
   show St.mk t _ = St.mk t b
   congr 1
   funext j
   by_cases q : j = id
   ·subst q; simp [St.setB, hb]
   ·simp [St.setB, q]
 rwa [e1] at h1
theorem UA (c : Cur) (s : ByteArray) (hs : s.size <= 100000) : FCon Tryz.prog 231 [c.d, .s (.string s)] (fun r o => StrR (s.size + 20) r /\ ∃ c', o = [Cur.d c', .un]) := by
 by_cases hz : s.size = 0
 ·have e1 : ((s.size : Int) == 0) = true := by simp [hz]
  refine FI PM Tryz.func231 Tryz.ntmps231 [(6, 7, [], [], (lin [] [0, 1, 2, 3, 4, 5, 6])), (10, 14, [7], [(7, 0), (7, 1), (7, 2), (7, 3), (7, 11), (7, 12), (7, 13)], (lin [7] [0, 1, 2, 3, 4, 5, 6, 11, 12, 13, 7, 8, 9, 10]))] rfl rfl ?_
  (have hWf := w1 @e1; repeat' (first | refine zS ?_ | refine zI ?_ ?_ | exact zF0 | refine zD fun hb => ?_ | exact zC | refine zT ?_ | fail))
  ·exact ⟨_, rfl, by rw [hz]; decide⟩
  ·exact ⟨c, rfl⟩
 ·have e1 : ((s.size : Int) == 0) = false := by simpa using hz
  obtain ⟨p, c1, p0, p1, B1⟩ := xD c (n := s.size) (by omega) (by omega)
  obtain ⟨k, c2, k0, k1, B2⟩ := xD c1 (n := 4) (by omega) (by omega)
  obtain ⟨q, c3, q0, q1, B3⟩ := xD c2 (n := ((40 : Nat) : Int)) (by simp) (by simp)
  obtain ⟨p, rfl⟩ := Int.eq_ofNat_of_zero_le p0
  have hp : p < s.size := by omega
  have x1 : (s.extract 0 p).size = p := by rw [ByteArray.size_extract]; omega
  by_cases hk0 : k = 0
  ·subst hk0
   have x2 : (s.extract (p + 1) s.size).size = s.size - (p + 1) := by rw [ByteArray.size_extract]; omega
   refine FI PM Tryz.func231 Tryz.ntmps231 [(6, 7, [], [], (lin [] [0, 1, 2, 3, 4, 5, 6])), (10, 14, [7], [(7, 0), (7, 1), (7, 2), (7, 3), (7, 11), (7, 12), (7, 13)], (lin [7] [0, 1, 2, 3, 4, 5, 6, 11, 12, 13, 7, 8, 9, 10]))] rfl rfl ?_
   (have hWf := w3 @e1 @int0 @y3; repeat' (first | refine zS ?_ | refine zI ?_ ?_ | refine zH B1 ?_ | refine zH B2 ?_ | exact zF0 | refine zD fun hb => ?_ | exact zC | refine zT ?_ | fail))
   ·exact st2 (by omega)
   ·exact ⟨c2, rfl⟩
  ·have f0 : (k == 0) = false := by simpa using hk0
   by_cases hk1 : k = 1
   ·subst hk1
    refine FI PM Tryz.func231 Tryz.ntmps231 [(6, 7, [], [], (lin [] [0, 1, 2, 3, 4, 5, 6])), (10, 14, [7], [(7, 0), (7, 1), (7, 2), (7, 3), (7, 11), (7, 12), (7, 13)], (lin [7] [0, 1, 2, 3, 4, 5, 6, 11, 12, 13, 7, 8, 9, 10]))] rfl rfl ?_
    (have hWf := w2 @e1 @int0; repeat' (first | refine zS ?_ | refine zI ?_ ?_ | refine zH B1 ?_ | refine zH B2 ?_ | exact zF0 | refine zD fun hb => ?_ | exact zC | refine zT ?_ | fail))
    ·exact ⟨_, rfl, by omega⟩
    ·exact ⟨c2, rfl⟩
   ·have f1 : (k == 1) = false := by simpa using hk1
    have x3 : (s.extract p s.size).size = s.size - p := by rw [ByteArray.size_extract]; omega
    obtain ⟨q, rfl⟩ := Int.eq_ofNat_of_zero_le q0
    have hq : q < 40 := by omega
    refine FI PM Tryz.func231 Tryz.ntmps231 [(6, 7, [], [], (lin [] [0, 1, 2, 3, 4, 5, 6])), (10, 14, [7], [(7, 0), (7, 1), (7, 2), (7, 3), (7, 11), (7, 12), (7, 13)], (lin [7] [0, 1, 2, 3, 4, 5, 6, 11, 12, 13, 7, 8, 9, 10]))] rfl rfl ?_
    iterate 13 (refine xA ?_; simp only [go_sem, simprocAttr, e1, f0, f1, int0]; (have hWf := w4 @e1 @f0 @f1 @int0; repeat' (first | refine zY ?_ | refine zI ?_ ?_ | refine zH B1 ?_ | refine zH B2 ?_ | exact zF1 | refine zD fun hb => ?_ | exact zC | refine zT ?_ | fail)))
    refine AC_gen 32 (by (simp only [go_sem, simprocAttr]); rfl) (fun rows => ∃ ss : List ByteArray, rows = ss.map stE /\ ss.length = 40 /\ ∀ x ∈ ss, x.size <= 20) ?_ ?_
    ·exact ⟨[_, _, _, _, _, _, _, _, _, _, _, _, _, _, _, _, _, _, _, _, _, _, _, _, _, _, _, _, _, _, _, _, _, _, _, _, _, _, _, _], rfl, rfl, by decide⟩
    rintro rows ⟨ss, rfl, hl, hsz⟩
    have hx := xh stE ss q (by omega)
    have he := yH (ss[q]'(by omega))
    have hss := hsz _ (List.getElem_mem (show q < ss.length by omega))
    have hlen : ((ss.map stE).length : Nat) = 40 := by simp [hl]
    (have hWf := w7 @e1 @f0 @f1 @int0 @hx @he @hlen; repeat' (first | refine zS ?_ | refine zI ?_ ?_ | refine zX (B3) ?_ | ((with_reducible apply xc); refine xm (B3) ?_; rintro _ _ ⟨rfl, rfl⟩) | exact zF0 | refine zD fun hb => ?_ | exact zC | refine zT ?_ | fail))
    all_goals first | exact ob2 (by omega) (by omega) | exact ob3 (by omega) (by omega) (by omega) | exact st3 (by omega) (by omega) | exact ⟨c3, rfl⟩ | trace_state
end Go.Proofs.YtgcdbmcoendcdaaGreat
