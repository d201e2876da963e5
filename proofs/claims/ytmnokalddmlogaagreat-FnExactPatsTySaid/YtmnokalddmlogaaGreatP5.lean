/- Parts of the proof, laid together: GwB, DecB, HaB, NmB, SvB, SpB. -/
import Derived.Deep.LoopGhost
import Derived.Deep.RegionLaw
import Derived.Deep.RegionWith
import Derived.Deep.Slices
import Derived.Laws.AppendOwn
import Derived.Laws.CopyRow
import Derived.Laws.Cover3
import Derived.Laws.EntriesVeiled
import Derived.Laws.Externs
import Derived.Laws.IdiomStrings
import Derived.Laws.StructEq
import Derived.Lib.AppendStr
import Derived.Lib.AppendZeros
import Derived.Lib.AppendZerosOnto
import Derived.Lib.Hide
import Derived.Lib.Overlaps
import Derived.ProofKit
import Derived.Test.YtmnokalddmlogaaGreatProg
import Derived.WalkKit
import Derived.Test.YtmnokalddmlogaaGreatP4
set_option linter.unusedSimpArgs false
set_option linter.unusedVariables false
set_option maxRecDepth 100000
set_option maxHeartbeats 8000000
namespace Go.Proofs.YtmnokalddmlogaaGreat
section
open Go.RowKit Go.ChangeShapes Go.WideShapes
def uD (W : World) : Nat -> Prop := fun b => b < W.heap.size
abbrev upW : Nat -> Option Pos := fun _ => none
def RepL (S : Nat -> Prop) (up : Nat -> Option Pos) (w : World) (ds : List D) (us : List Value) : Prop := us.length = ds.length /\ ∀ (j : Nat) (d : D) (u : Value), ds[j]? = some d -> us[j]? = some u -> Rep S up w none d u
theorem cell_lt {W : World} {b o : Nat} {v : Value} (h : W.cell? ⟨b, o, none⟩ = some v) : b < W.heap.size := by
 rcases Nat.lt_or_ge b W.heap.size with q | q
 ·exact q
 ·simp [World.cell?, Array.getElem?_eq_none q] at h
theorem CellsAt.cellW {W : World} {b off : Nat} {r : List Value} (h : CellsAt (hp W) b off r) {j : Nat} {u : Value} (hj : r[j]? = some u) : W.cell? ⟨b, off + j, none⟩ = some u := by
 have hlt := (List.getElem?_eq_some_iff.1 hj).1
 rw [h.cell (Sub.self W) hlt, <- hj, List.getElem?_eq_getElem hlt]
theorem SlOf.rep {α : Type} {enc : α -> List D} {ok : α -> Prop} {k : Nat} {W : World} {R : Hp -> List Value -> α -> Prop} (hR : ∀ r x, R (hp W) r x -> RepL (uD W) upW W (enc x) r /\ ok x) {v : Value} {xs : List α} (h : SlOf k R (hp W) v xs) :
  Rep (uD W) upW W none (.sl k (xs.map enc)) v /\ ∀ x ∈ xs, ok x := by
 obtain ⟨a, c, rfl, h1, h2, rfl | ⟨b, off, rfl, hc⟩⟩ := h
 ·exact ⟨.sl0 h2, fun x hx => by cases hx⟩
 ·have key : ∀ i (hi : i < xs.length), ∃ r : List Value, r.length = k /\ (∀ (j : Nat) (u : Value), r[j]? = some u -> W.cell? ⟨b, off + i * k + j, none⟩ = some u) /\ RepL (uD W) upW W (enc xs[i]) r /\ ok xs[i] := by
   intro i hi
   obtain ⟨r, r1, r2, r3⟩ := hc i hi
   exact ⟨r, r1, fun j u hj => r2.cellW hj, hR _ _ r3⟩
  refine ⟨?_, fun x hx => ?_⟩
  ·have hrows : ∀ (i : Nat) (row : List D), (xs.map enc)[i]? = some row -> ∃ hi : i < xs.length, row = enc xs[i] := by
    intro i row h
    rw [List.getElem?_map] at h
    cases hx : xs[i]? with
    | none => rw [hx] at h; cases h
    | some y =>
     rw [hx] at h
     injection h with h
     obtain ⟨hi, e⟩ := List.getElem?_eq_some_iff.1 hx
     exact ⟨hi, by rw [<- h, <- e]⟩
   have hcell : ∀ (i j : Nat) (row : List D) (d : D), (xs.map enc)[i]? = some row -> row[j]? = some d -> ∃ u, W.cell? ⟨b, off + i * k + j, none⟩ = some u /\ Rep (uD W) upW W none d u := by
    intro i j row d hi hj
    obtain ⟨hi', rfl⟩ := hrows i row hi
    obtain ⟨r, r1, r2, r3, -⟩ := key i hi'
    have hlt : j < r.length := by rw [r3.1]; exact (List.getElem?_eq_some_iff.1 hj).1
    exact ⟨r[j], r2 j _ (List.getElem?_eq_getElem hlt), r3.2 j d _ hj (List.getElem?_eq_getElem hlt)⟩
   have hlen : xs.length = (xs.map enc).length := by simp
   rw [hlen]
   refine Rep.sl (fun i j => (W.cell? ⟨b, off + i * k + j, none⟩).getD undef) (by rw [<- hlen]; exact h1) h2 (fun i row hi => ?_) (fun i j row d hi hj => ?_) (fun i j row d hi hj => ?_)
   ·obtain ⟨hi', rfl⟩ := hrows i row hi
    obtain ⟨r, r1, r2, r3, -⟩ := key i hi'
    rw [<- r3.1, r1]
   ·obtain ⟨u, hu, hr⟩ := hcell i j row d hi hj
    exact ⟨cell_lt hu, by rw [hu]; rfl⟩
   ·obtain ⟨u, hu, hr⟩ := hcell i j row d hi hj
    rw [hu]; exact hr
  ·obtain ⟨i, hi, rfl⟩ := List.getElem_of_mem hx
   obtain ⟨r, _, _, _, h⟩ := key i hi
   exact h
theorem Rep.slOf {α : Type} {enc : α -> List D} {k : Nat} {S : Nat -> Prop} {up : Nat -> Option Pos} {W : World} {R : Hp -> List Value -> α -> Prop} {xs : List α} (hk : ∀ x ∈ xs, (enc x).length = k) (hk0 : 0 < k) (hR : ∀ r x, x ∈ xs -> RepL S up W (enc x) r -> R (hp W) r x) {v : Value} (h : Rep S up W none (.sl k (xs.map enc)) v) : SlOf k R (hp W) v xs := by
 generalize hrows : xs.map enc = rows at h
 cases h with
 | sl0 hc =>
  have : xs = [] := by cases xs with | nil => rfl | cons _ _ => simp at hrows
  subst this
  exact ⟨_, _, rfl, Nat.zero_le _, hc, .inl rfl⟩
 | @sl _ _ _ b off c us c1 c2 c3 c4 c5 =>
  subst hrows
  refine ⟨_, c, by simp, by simpa using c1, c2, .inr ⟨b, off, rfl, fun i hi => ?_⟩⟩
  have hg : (xs.map enc)[i]? = some (enc xs[i]) := by rw [List.getElem?_map, List.getElem?_eq_getElem hi]; rfl
  have hl := hk xs[i] (List.getElem_mem hi)
  have hlr : ((List.range k).map (us i)).length = k := by simp
  refine ⟨(List.range k).map (us i), hlr, Wq (by omega) (fun j hj => ?_), hR _ _ (List.getElem_mem hi) ⟨by simp [hl], fun j d u hd hu => ?_⟩⟩
  ·have hjk : j < k := by omega
   have := (c4 i j _ ((enc xs[i])[j]'(by omega)) hg (List.getElem?_eq_getElem _)).2
   rw [this]
   simp [hjk]
  ·have hjk : j < k := by rw [<- hl]; exact (List.getElem?_eq_some_iff.1 hd).1
   have hu' : us i j = u := by simpa [hjk] using hu
   subst hu'
   exact c5 i j _ d hg hd
def RB (S : Nat -> Prop) (up : Nat -> Option Pos) (w : World) : D -> Value -> Prop
 | .ag xs, v => ∃ us : List Value, v = .agg us.toArray /\ RepL S up w xs us
 | d, v => Rep S up w none d v
def lentB : D -> Bool
 | .ag xs => xs.all fun y => !ownB y
 | d => !ownB d
theorem Rep.lent {S : Nat -> Prop} {up : Nat -> Option Pos} {w : World} {p : Option Pos} {d : D} {v : Value} (h : Rep S up w p d v) (hd : ownB d = false) : Rep S up w none d v := h.free (fun _ _ _ q => by subst q; cases hd) (fun _ _ q => by subst q; cases hd) none
theorem RA.lent {g : Gh} {w : World} {j : Nat} {d : D} {v : Value} (h : RA g w j d v) (hd : lentB d = true) : RB g.S g.up w d v := by
 cases d with
 | ag xs =>
  obtain ⟨us, rfl, u1, u2⟩ := h
  refine ⟨us, rfl, u1, fun l x u hx hu => (u2 l x u hx hu).lent ?_⟩
  have := List.all_eq_true.1 hd x (List.mem_of_getElem? hx)
  simpa using this
 | un => simp only [RA] at h; cases h
 | tup _ => simp only [RA] at h; cases h
 | mb _ _ => simp only [RA] at h; cases h
 | bx _ _ => simp only [RA] at h; cases h
 | el _ _ _ _ => simp only [RA] at h; cases h
 | bs _ _ _ => simp only [RA] at h; cases h
 | osl _ _ _ => cases hd
 | opa _ _ => cases hd
 | _ => simp only [RA] at h; exact h.lent rfl
theorem FCon.ofBelow {P : Program} {f : FuncId} {fn : Func} {c : Code} (hf : P.funcs[f]? = some fn) (hname : (fn.name == "runtime.NumGoroutine") = false) (hb : fn.body = some c) {ars : List D} {Rv : Value -> Prop} {Rs : D -> List D -> Prop} (hR : ∀ v, Rv v -> v.oneCell' = true /\ Rs (.s v) []) (hl : ars.all lentB = true)
  (h : ∀ (w : World) (S : Nat -> Prop) (up : Nat -> Option Pos) (vs : List Value), vs.length = ars.length -> (∀ (j : Nat) (b : D) (u : Value), ars[j]? = some b -> vs[j]? = some u -> RB S up w b u) -> Calls P f vs.toArray w (fun e w' => ∃ v, e = .returned v /\ Rv v /\ Below w.heap.size w w')) : FCon P f ars Rs := by
 refine ⟨fun vs w => ?_, fun w g vs hS hu hl' hv => (h w g.S g.up vs hl' (fun j b u q1 q2 => (hv j b u q1 q2).lent (List.all_eq_true.1 hl b (List.mem_of_getElem? q1)))).mono ?_⟩
 ·have hname' : ¬ fn.name = "runtime.NumGoroutine" := by simpa using hname
  have hbn : ¬ fn.body = none := by rw [hb]; simp
  simp [callFunc, hf, hname', hbn]
 ·rintro e w' ⟨v, rfl, hv, hbel⟩
  obtain ⟨h1, h2⟩ := hR v hv
  exact ⟨v, ⟨fun _ => none, fun _ => 0, fun _ => none, g.S⟩, _, [], rfl, ⟨hbel.os, hbel.tape, hbel.output, hbel.size, fun k hk => by omega⟩, fun b hb' _ => hbel.block b hb', fun _ q => q, fun _ _ q => .inl q, fun b q => Nat.lt_of_lt_of_le (hS b q) hbel.size, fun b p q => (by cases q), h2, Rep.s h1, fun j d u q => (by simp at q)⟩
theorem RB.ra {S : Nat → Prop} {up : Nat → Option Pos} {g : Gh} (hS : g.S = S) (hU : g.up = up) {w : World} {j : Nat} {d : D} {v : Value} (h : RB S up w d v) : RA g w j d v := by
  subst hS hU
  cases d with
  | ag xs => obtain ⟨us, rfl, u1, u2⟩ := h; exact ⟨us, rfl, u1, fun l x u hx hu => (u2 l x u hx hu).any _⟩
  | un => cases h
  | tup _ => cases h
  | mb _ _ => cases h
  | bx _ _ => cases h
  | el _ _ _ _ => cases h
  | bs _ _ _ => cases h
  | _ => exact Rep.any h _
theorem Rep.rb {S : Nat → Prop} {up : Nat → Option Pos} {W : World} {d : D} {v : Value} (h : Rep S up W none d v) : RB S up W d v := by
  cases d <;> first | exact h | cases h
theorem FCon.law {f : FuncId} {ars : List D} (h : FCon Tryz.prog f ars (fun r _ => r = .s (.bool true))) (w : World) (vs : List Value) (hl : vs.length = ars.length) (hv : ∀ (j : Nat) (b : D) (u : Value), ars[j]? = some b -> vs[j]? = some u -> RB (uD w) upW w b u) :
  Calls Tryz.prog f vs.toArray w fun e w' => e = .returned (.bool true) /\ Below w.heap.size w w' := by
 refine (h.run w ⟨fun _ => none, fun _ => 0, upW, uD w⟩ vs (fun _ q => q) (fun b p q => (by cases q)) hl (fun j b u q1 q2 => (hv j b u q1 q2).ra rfl rfl)).mono ?_
 rintro e w' ⟨v, g', r, o, rfl, b1, b2, b3, b4, b5, b6, rfl, b7, -⟩
 have b7 : Rep g'.S g'.up w' (some (.ans 0 0)) (.s (.bool true)) v := b7
 have : v = .bool true := Rep.s_inv b7
 subst this
 exact ⟨rfl, b1.os, b1.tape, b1.output, b1.size, fun k hk => b2 k hk rfl⟩
theorem one_arg {P : Nat -> D -> Value -> Prop} {b : D} {vs : List Value} (hl : vs.length = [b].length) (h : ∀ (j : Nat) (c : D) (u : Value), [b][j]? = some c -> vs[j]? = some u -> P j c u) : ∃ v, vs = [v] /\ P 0 b v := by
 match vs, hl with
 | [v], _ => exact ⟨v, rfl, h 0 b v rfl rfl⟩
theorem RepL.nil {S : Nat -> Prop} {up : Nat -> Option Pos} {W : World} : RepL S up W [] [] := ⟨rfl, fun j d u h => by simp at h⟩
theorem RepL.cons {S : Nat -> Prop} {up : Nat -> Option Pos} {W : World} {d : D} {u : Value} {ds : List D} {us : List Value} (h : Rep S up W none d u) (t : RepL S up W ds us) : RepL S up W (d :: ds) (u :: us) := ⟨by simp [t.1], fun j d' u' h1 h2 => by
 cases j with
 | zero => simp at h1 h2; subst h1 h2; exact h
 | succ j => exact t.2 j d' u' (by simpa using h1) (by simpa using h2)⟩
theorem RepL.append {S : Nat -> Prop} {up : Nat -> Option Pos} {W : World} : ∀ {a b : List D} {us vs : List Value}, RepL S up W a us -> RepL S up W b vs -> RepL S up W (a ++ b) (us ++ vs)
 | [], b, us, vs, h, t => by
  have : us = [] := List.eq_nil_of_length_eq_zero h.1
  subst this; exact t
 | d :: a, b, [], vs, h, t => by have := h.1; simp at this
 | d :: a, b, u :: us, vs, h, t => RepL.cons (h.2 0 d u rfl rfl) (RepL.append ⟨by have := h.1; simpa using this, fun j d' u' h1 h2 => h.2 (j + 1) d' u' (by simpa using h1) (by simpa using h2)⟩ t)
def RdE {α : Type} (t : TypeId) (k : Nat) (enc : α -> List D) (ok : α -> Prop) : Prop :=
 Tryz.prog.cellsOf t = k /\ ∀ (H : Type) (en : TypeId × Value -> H) (W : World) (n : Nat) (cs : List Value) (x : DataW H × List MemPlace), Rd en Tryz.prog W n t cs x -> ∃ a : α, RepL (uD W) upW W (enc a) cs /\ ok a
theorem XZ {S : Nat -> Prop} {up : Nat -> Option Pos} {W : World} {d : D} {v : Value} (h : Rep S up W none d v) : RepL S up W [d] [v] := RepL.cons h (RepL.nil)
theorem RdE.int {t : TypeId} (hu : Tryz.prog.underlying t = some (.int .i64)) (hc : Tryz.prog.cellsOf t = 1) : RdE t 1 (fun n : Int => [.s (.int .i64 n)]) I64 := by
 refine ⟨hc, fun H en W n cs x h => ?_⟩
 obtain ⟨k0, rfl, -, z0⟩ := DataW.trod_int hu h
 exact ⟨k0, XZ (.s rfl), i64_of z0⟩
theorem RdE.string {t : TypeId} (hu : Tryz.prog.underlying t = some .string) (hc : Tryz.prog.cellsOf t = 1) : RdE t 1 (fun s : ByteArray => [.s (.string s)]) (fun s => s.size <= maxLen) := by
 refine ⟨hc, fun H en W n cs x h => ?_⟩
 obtain ⟨k0, rfl, -, z0⟩ := DataW.trod_string hu h
 exact ⟨k0, XZ (.s rfl), z0⟩
theorem RdE.bool {t : TypeId} (hu : Tryz.prog.underlying t = some .bool) (hc : Tryz.prog.cellsOf t = 1) : RdE t 1 (fun b : Bool => [.s (.bool b)]) (fun _ => True) := by
 refine ⟨hc, fun H en W n cs x h => ?_⟩
 obtain ⟨k0, rfl, -⟩ := DataW.trod_bool hu h
 exact ⟨k0, XZ (.s rfl), trivial⟩
theorem RdE.slice {α : Type} {t e : TypeId} {k : Nat} {enc : α -> List D} {ok : α -> Prop} (hu : Tryz.prog.underlying t = some (.slice e)) (hc : Tryz.prog.cellsOf t = 1) (hk : 0 < k) (h : RdE e k enc ok) : RdE t 1 (fun xs : List α => [.sl k (xs.map enc)]) (fun xs => ∀ x ∈ xs, ok x) := by
 refine ⟨hc, fun H en W n cs x hr => ?_⟩
 obtain ⟨v, xs, rfl, hs⟩ := rd_slice k (fun hh r (x : α) => hh = hp W /\ RepL (uD W) upW W (enc x) r /\ ok x) hu h.1 hk (fun n cs' y hy => by
  obtain ⟨a, h1, h2⟩ := h.2 H en W n cs' y hy
  exact ⟨a, rfl, h1, h2⟩) hr
 obtain ⟨h1, h2⟩ := SlOf.rep (enc := enc) (ok := ok) (fun r x hr => hr.2) hs
 exact ⟨xs, XZ h1, h2⟩
inductive PartsL (S : Nat -> Prop) (up : Nat -> Option Pos) (W : World) (cs : List Value) : Nat -> List (List D) -> Prop where
 | nil {off : Nat} : off = cs.length -> PartsL S up W cs off []
 | cons {off k : Nat} {ds : List D} {r : List (List D)} : RepL S up W ds ((cs.drop off).take k) -> PartsL S up W cs (off + k) r -> off + k <= cs.length -> PartsL S up W cs off (ds :: r)
theorem PartsL.rep {S : Nat -> Prop} {up : Nat -> Option Pos} {W : World} {cs : List Value} : ∀ {r : List (List D)} {off : Nat}, PartsL S up W cs off r -> RepL S up W r.flatten (cs.drop off)
 | [], off, .nil h => by rw [h, List.drop_length]; exact RepL.nil
 | ds :: r, off, .cons (k := k) h t hl => by
  have h2 := h.append t.rep
  have : (cs.drop off).take k ++ cs.drop (off + k) = cs.drop off := by
   rw [<- List.drop_drop, List.take_append_drop]
  rw [this] at h2
  exact h2
theorem sl_of {P : Program} {W : World} {r : Reach} {b : Nat} {t e : TypeId} {v : Value} (hu : P.underlying t = some (.slice e)) (o : Value.okWide P W r b t v) : ∃ a n c, v = .slice a n c /\ v.cells.toList = [v] := by
 obtain ⟨a, n, c, rfl, _⟩ := okWide_slice hu o
 exact ⟨a, n, c, rfl, rfl⟩
theorem agg_of {P : Program} {W : World} {r : Reach} {b : Nat} {t : TypeId} {fs : Array Field} {v : Value} (hu : P.underlying t = some (.struct fs)) (o : Value.okWide P W r b t v) : ∃ cs, v = .agg cs /\ v.cells.toList = cs.toList := by
 obtain ⟨cs, rfl, _⟩ := okWide_struct hu o
 exact ⟨cs, rfl, rfl⟩
theorem trod_ex {H : Type} {P : Program} {en : TypeId × Value -> H} {w : World} {t : TypeId} {v : Value} {x : DataW H} {pl : List MemPlace} (k : DataW.Trod en P w 0 (fun _ => true) true t v x pl) : ∃ fuel, Rd en P w fuel t v.cells.toList (x, pl) := k
theorem RdE.sl {α : Type} {t e : TypeId} {d : α -> D} {ok : α -> Prop} (h : RdE t 1 (fun a => [d a]) ok) (hu : Tryz.prog.underlying t = some (.slice e)) {H : Type} {en : TypeId × Value -> H} {w : World} {r : Reach} {b : Nat} {v : Value} {x : DataW H} {pl : List MemPlace} (k : DataW.Trod en Tryz.prog w 0 (fun _ => true) true t v x pl) (o : Value.okWide Tryz.prog w r b t v) :
  ∃ a : α, RB (uD w) upW w (d a) v /\ ok a := by
 obtain ⟨a, n, c, e1, e2⟩ := sl_of hu o
 obtain ⟨fuel, hf⟩ := trod_ex k
 rw [e2] at hf
 obtain ⟨y, hy, ho⟩ := h.2 _ _ _ _ _ _ hf
 exact ⟨y, (hy.2 0 _ _ rfl rfl).rb, ho⟩
theorem RdE.ag {α : Type} {t : TypeId} {n : Nat} {fs : Array Field} {enc : α -> List D} {ok : α -> Prop} (h : RdE t n enc ok) (hu : Tryz.prog.underlying t = some (.struct fs)) {H : Type} {en : TypeId × Value -> H} {w : World} {r : Reach} {b : Nat} {v : Value} {x : DataW H} {pl : List MemPlace} (k : DataW.Trod en Tryz.prog w 0 (fun _ => true) true t v x pl) (o : Value.okWide Tryz.prog w r b t v) :
  ∃ a : α, RB (uD w) upW w (.ag (enc a)) v /\ ok a := by
 obtain ⟨cs, e1, e2⟩ := agg_of hu o
 obtain ⟨fuel, hf⟩ := trod_ex k
 rw [e2] at hf
 subst e1
 obtain ⟨y, hy, ho⟩ := h.2 _ _ _ _ _ _ hf
 exact ⟨y, ⟨cs.toList, by simp, hy⟩, ho⟩
theorem args2 {P : D -> Value -> Prop} {b0 b1 : D} {v0 v1 : Value} (h0 : P b0 v0) (h1 : P b1 v1) : ∀ (j : Nat) (b : D) (u : Value), [b0, b1][j]? = some b -> [v0, v1][j]? = some u -> P b u
 | 0, _, _, rfl, rfl => h0
 | 1, _, _, rfl, rfl => h1
end
section
open Go.RowKit
def St.nilE (σ : St) (id : Nat) (row : List D) (c nm e k : Nat) : St := ((σ.sc (pOut [nm]) (pOut [nm])).setB id (.box ((row.map (scC (pOut [nm]))).set c (.bs nm k 0)))).setB nm (.arr e k [])
theorem Rel.nilE {x : Cx} {g : Gh} {σ : St} {a : Act} {w : World} (h : Rel x g σ a w) {id c nm : Nat} {row : List D} (e k : Nat) (hb : σ.b id = some (.box row)) (hc : row[c]? = some .nil) (hne : nm ≠ id) (hnP : isP nm = false) : ∃ g', Rel x g' (σ.nilE id row c nm e k) a w := by
 let g' : Gh := ⟨fun j => if j = nm then none else g.β j, fun j => if j = nm then 0 else g.κ j, g.up, g.S⟩
 have ev : Ev (fun p => p ≠ .root nm) (fun p => p) (pOut [nm]) (pOut [nm]) g g' w w := by
  refine ⟨⟨fun b hb => ⟨hb, rfl⟩, fun b p hp _ => ⟨hp, rfl⟩, fun b p o _ _ => ⟨by simp, rfl⟩⟩, fun j hj => ?_, fun j hj => ?_⟩
  ·have := xt hj nm (by simp)
   exact ⟨if_neg this, if_neg this⟩
  ·have := xt hj nm (by simp)
   exact ⟨hj, fun q => by injection q with q; exact this q, rfl⟩
 have hR := h.ev ev (Below.refl _ _) (fun b _ _ => rfl) (fun b _ hs => .inl hs) h.new h.own
 have hid : pOut [nm] id = true := by simp [pOut]; exact fun q => hne q.symm
 have hbx : (σ.sc (pOut [nm]) (pOut [nm])).b id = some (.box (row.map (scC (pOut [nm])))) := by
  show (if pOut [nm] id = true then (σ.b id).map (scO (pOut [nm])) else none) = _
  rw [if_pos hid, hb]; rfl
 obtain ⟨b, cs, ty, e1, e2, e3, e4, e5⟩ := hR.ob id _ hbx
 have hcl : c < row.length := (List.getElem?_eq_some_iff.1 hc).1
 refine ⟨g', (hR.setB (id := id) (o := .box ((row.map (scC (pOut [nm]))).set c (.bs nm k 0))) ⟨b, cs, ty, e1, e2, e3, by simpa using e4, fun j d hj => ?_⟩ (fun hp => hR.par id _ hbx hp)).setB (id := nm) ?_ (fun hp => by rw [hnP] at hp; cases hp)⟩
 ·rw [List.getElem?_set] at hj
  split at hj
  ·rename_i q; subst q
   rw [if_pos (by simpa using hcl)] at hj
   injection hj with hj; subst hj
   have h0 := e5 c .nil (by rw [List.getElem?_map, hc]; rfl)
   have h0 : Rep g'.S g'.up w (some (.cell b c)) .nil (cs.getD c undef) := h0
   generalize cs.getD c undef = v at h0
   cases h0
   have hβ : g'.β nm = none := if_pos rfl
   have hκ : g'.κ nm = 0 := if_pos rfl
   exact ⟨by rw [hβ, hκ]; rfl, Nat.zero_le _, by rw [hκ]; exact Nat.zero_le _, fun _ => hκ⟩
  ·exact e5 j d hj
 ·have hβ : g'.β nm = none := if_pos rfl
  have hκ : g'.κ nm = 0 := if_pos rfl
  show Rep g'.S g'.up w (some (.root nm)) (.osl e k []) (.slice ((g'.β nm).map fun b => ⟨b, 0, none⟩) 0 (g'.κ nm))
  rw [hβ, hκ]
  exact .osl0
theorem Wk_nil {M : Md} {N : Nat} {σ : St} (id c nm : Nat) {row : List D} (e k : Nat) (hb : σ.b id = some (.box row)) (hc : row[c]? = some .nil) (hne : nm ≠ id) (hnP : isP nm = false) : Wk M N σ (σ.nilE id row c nm e k) := fun x g a w _ _ hr => hr.nilE e k hb hc hne hnP
theorem Yb {M : Md} {N : Nat} {pl : List (Nat × Plan)} {K : Exit -> St -> Prop} {σ : St} {cd : Code} (id c nm : Nat) {row : List D} (e k : Nat) (hb : σ.b id = some (.box row)) (hc : row[c]? = some .nil) (hne : nm ≠ id) (hnP : isP nm = false) (h : AC M N pl cd K (σ.nilE id row c nm e k)) : AC M N pl cd K σ := YP (Wk_nil id c nm e k hb hc hne hnP) h
theorem nilE_t (σ : St) (id : Nat) (row : List D) (c nm e k j : Nat) : (σ.nilE id row c nm e k).t j = scT (pOut [nm]) (σ.t j) := rfl
theorem nilE_b (σ : St) (id : Nat) (row : List D) (c nm e k j : Nat) : (σ.nilE id row c nm e k).b j = if j = nm then some (.arr e k []) else if j = id then some (.box ((row.map (scC (pOut [nm]))).set c (.bs nm k 0))) else if pOut [nm] j = true then (σ.b j).map (scO (pOut [nm])) else none := rfl
attribute [go_sem] nilE_t nilE_b
theorem FCon.arg {P : Program} {f : FuncId} {args : List D} {Rs : D -> List D -> Prop} (h : FCon P f args Rs) (args' : List D) (hl : args'.length = args.length) (ha : ∀ (j : Nat) (d' d : D), args'[j]? = some d' -> args[j]? = some d -> ∀ (g : Gh) (w : World) (u : Value), RA g w j d' u -> RA g w j d u) : FCon P f args' Rs :=
 ⟨h.ent, fun w g vs h1 h2 h3 h4 => h.run w g vs h1 h2 (h3.trans hl) fun j d u hd hu => by
  have hj : j < args'.length := by rw [hl]; exact (List.getElem?_eq_some_iff.1 hd).1
  exact ha j _ d (List.getElem?_eq_getElem hj) hd g w u (h4 j _ u (List.getElem?_eq_getElem hj) hu)⟩
theorem RA_nilS {g : Gh} {w : World} {j k : Nat} {u : Value} (h : RA g w j .nil u) : RA g w j (.sl k []) u := Rep.nil_sl k (show Rep g.S g.up w (some (.par j 0)) .nil u from h)
theorem Xw {g : Gh} {w : World} {v : Value} {xs xs' : List D} (hl : xs'.length = xs.length) (hc : ∀ (m : Nat) (x x' : D), xs[m]? = some x -> xs'[m]? = some x' -> ∀ u, RN g w m x u -> RN g w m x' u) (h : RNs g w (.tup xs) v) : RNs g w (.tup xs') v := by
 obtain ⟨us, e, h1, h2⟩ := h
 refine ⟨us, e, h1.trans hl.symm, fun m x' u hx hu => ?_⟩
 have hm : m < xs.length := by rw [<- hl]; exact (List.getElem?_eq_some_iff.1 hx).1
 have hd := List.getElem?_eq_getElem hm
 exact hc m _ x' hd hx u (h2 m _ u hd hu)
def bs (l : List UInt8) : ByteArray := ⟨l.toArray⟩
theorem WM (l : List UInt8) : (bs l).size = l.length := rfl
def byteV (b : UInt8) : Value := .int .u8 (b.toNat : Int)
theorem Q3 (z : Int) (d : UInt8) (hz : Value.int .u8 z = byteV d) (W : World) (b : Nat) (hc : W.cell? ⟨b, 0, none⟩ = some (.int .u8 z)) :
  (Go.convert 55 9 (.slice (some ⟨b, 0, none⟩) 1 1)).run Tryz.prog W = .ok (.string (bs [d])) W := by
 refine run_convert_bytes_back W 55 9 5 _ _ [d] Tryz.underlying55 Tryz.underlying5 Tryz.underlying9 (fun j hj => ?_)
 obtain rfl : j = 0 := by simpa using hj
 rw [Zz]
 exact hc.trans (congrArg some hz)
end
section
def dgt (d : Nat) : UInt8 := UInt8.ofNat (48 + d)
theorem dgt_nat {d : Nat} (h : d < 10) : (dgt d).toNat = 48 + d := by
 unfold dgt; rw [UInt8.toNat_ofNat']; omega
def decL (n : Nat) : List UInt8 := if n < 10 then [dgt n] else decL (n / 10) ++ [dgt (n % 10)]
theorem vd {n : Nat} (h : n < 10) : decL n = [dgt n] := by rw [decL, if_pos h]
theorem V3 {n : Nat} (h : ¬ n < 10) : decL n = decL (n / 10) ++ [dgt (n % 10)] := by rw [decL, if_neg h]
theorem V4 : ∀ (k n : Nat), n < 10 ^ (k + 1) -> (decL n).length <= k + 1
 | 0, n, h => by rw [vd (by simpa using h)]; simp
 | k + 1, n, h => by
  by_cases h' : n < 10
  ·rw [vd h']; simp
  ·rw [V3 h', List.length_append]
   have := V4 k (n / 10) (by rw [Nat.pow_succ] at h; omega)
   simp; omega
end
section
open Go.RowKit
theorem dgtV {d : Nat} (h : d < 10) : Value.int .u8 (48 + (d : Int)) = byteV (dgt d) := by
 unfold byteV; rw [dgt_nat h]; simp
theorem str_app (l m : List UInt8) : (bs l ++ bs m) = bs (l ++ m) := by
 apply Ur
 show ((bs l).append (bs m)).data.toList = _
 simp [bs, ByteArray.append]
end
section
structure TyI where
 v : Int
 name : ByteArray
 ar : Int
def TyI.ok (x : TyI) : Prop := I64 x.v /\ x.name.size <= maxLen /\ I64 x.ar
def xF (x : TyI) : Bool :=
 if x.name.toList.isEmpty then decide (0 <= x.v) && decide (x.v <= 9999) && (x.ar == 0)
 else (x.v == 0) && (if x.name.toList == [45, 62] || x.name.toList == [42] then x.ar == 2 else if x.name.toList == [114, 101, 102] then x.ar == 1 else xU x.name && decide (0 <= x.ar) && decide (x.ar <= 2))
theorem XL {x : TyI} (h : xF x = true) : 0 <= x.ar /\ x.ar <= 2 := by
 unfold xF at h
 split at h
 ·simp only [Bool.and_eq_true, decide_eq_true_eq, beq_iff_eq] at h; omega
 ·split at h
  ·simp only [Bool.and_eq_true, decide_eq_true_eq, beq_iff_eq] at h; omega
  ·split at h <;> simp only [Bool.and_eq_true, decide_eq_true_eq, beq_iff_eq] at h <;> omega
def scan : List Nat -> Nat -> Option Nat
 | _, 0 => some 0
 | [], _ + 1 => none
 | a :: l, m + 1 => (scan l (m + a)).map (· + 1)
theorem zj (l : List Nat) : scan l 0 = some 0 := by cases l <;> rfl
theorem scan_le : ∀ (l : List Nat) (m k : Nat), scan l m = some k -> k <= l.length
 | l, 0, k, h => by rw [zj] at h; cases h; exact Nat.zero_le _
 | [], m + 1, k, h => by cases h
 | a :: l, m + 1, k, h => by
  rw [scan] at h
  cases e : scan l (m + a) with
  | none => rw [e] at h; cases h
  | some j =>
   rw [e] at h
   have := scan_le l _ _ e
   have h2 : j + 1 = k := by simpa using h
   simp only [List.length_cons]
   omega
theorem Z6 : ∀ (l : List Nat) (m n : Nat), scan l (m + n) = (scan l m).bind fun k => (scan (l.drop k) n).map (· + k)
 | l, 0, n => by rw [zj, Nat.zero_add]; simp
 | [], m + 1, n => by rw [show m + 1 + n = m + n + 1 by omega]; rfl
 | a :: l, m + 1, n => by
  rw [show m + 1 + n = m + n + 1 by omega, scan, scan, show m + n + a = (m + a) + n by omega, Z6 l (m + a) n]
  cases scan l (m + a) with
  | none => rfl
  | some k =>
   simp only [Option.bind_some, Option.map_some, List.drop_succ_cons]
   cases scan (l.drop k) n with
   | none => rfl
   | some j => simp; omega
def arsM (xs : List TyI) : List Nat := xs.map fun x => x.ar.toNat
def endM (xs : List TyI) (k : Nat) : Int := match scan ((arsM xs).drop k) 1 with
 | some j => ((k + j : Nat) : Int)
 | none => -1
def xT (xs : List TyI) (k i : Nat) : Int := match scan ((arsM xs).drop k) i with
 | some j => ((k + j : Nat) : Int)
 | none => -1
theorem ve (xs : List TyI) (k : Nat) : xT xs k 0 = k := by unfold xT; rw [zj]; rfl
theorem Yv (xs : List TyI) (k : Nat) : endM xs k = xT xs k 1 := rfl
theorem Yi (xs : List TyI) (k : Nat) (h : k < xs.length) : (arsM xs).drop k = xs[k].ar.toNat :: (arsM xs).drop (k + 1) := by
 have hl : k < (arsM xs).length := by unfold arsM; simpa using h
 rw [List.drop_eq_getElem_cons hl]
 congr 1
 exact List.getElem_map _
theorem vV (xs : List TyI) (k : Nat) (h : k < xs.length) : endM xs k = xT xs (k + 1) xs[k].ar.toNat := by
 unfold endM xT
 rw [Yi xs k h, scan, Nat.zero_add]
 cases scan ((arsM xs).drop (k + 1)) xs[k].ar.toNat with
 | none => rfl
 | some j => simp only [Option.map_some]; congr 1; omega
theorem ZJ (xs : List TyI) (k : Nat) (h : xs.length <= k) : endM xs k = -1 := by
 unfold endM
 rw [List.drop_eq_nil_of_le (by unfold arsM; simpa using h)]
 rfl
theorem UE (xs : List TyI) (k i : Nat) (h : xT xs k i < 0) : ∀ j, i <= j -> xT xs k j = -1 := by
 intro j hj
 unfold xT at h ⊢
 cases e : scan ((arsM xs).drop k) i with
 | some q => rw [e] at h; simp only at h; omega
 | none =>
  rw [show j = i + (j - i) by omega, Z6, e]
  rfl
theorem Wu (xs : List TyI) (k i : Nat) (n : Nat) (h : xT xs k i = n) : xT xs k (i + 1) = endM xs n := by
 unfold xT at h
 cases e : scan ((arsM xs).drop k) i with
 | none => rw [e] at h; simp only at h; omega
 | some q =>
  rw [e] at h
  simp only at h
  obtain rfl : n = k + q := by omega
  unfold xT endM
  rw [Z6, e, Option.bind_some, List.drop_drop]
  cases scan ((arsM xs).drop (k + q)) 1 with
  | none => rfl
  | some j => simp only [Option.map_some]; congr 1; omega
theorem ZL (xs : List TyI) (k i : Nat) (hk : k <= xs.length) : xT xs k i = -1 \/ ∃ n : Nat, xT xs k i = n /\ k <= n /\ n <= xs.length := by
 unfold xT
 cases e : scan ((arsM xs).drop k) i with
 | none => exact .inl rfl
 | some q =>
  refine .inr ⟨k + q, rfl, by omega, ?_⟩
  have := scan_le _ _ _ e
  have hl : ((arsM xs).drop k).length = xs.length - k := by unfold arsM; simp
  omega
def yJ (xs : List TyI) : Bool := xs.all xF && decide (endM xs 0 = xs.length)
def zq (xs : List TyI) : Bool := decide (xs.length <= 200) && yJ xs
def wh (xs : List TyI) (k m : Nat) : Bool := (xs.drop k).all xF && decide (xT xs k m = xs.length)
theorem Q2 (xs : List TyI) : wh xs 0 1 = yJ xs := by unfold wh yJ; rw [Yv]; rfl
theorem xaD (xs : List TyI) (k : Nat) (h : k < xs.length) : wh xs k 0 = false := by
 unfold wh
 rw [ve, decide_eq_false (by omega), Bool.and_false]
theorem restM_bad (xs : List TyI) (k m : Nat) (h : k < xs.length) (hb : xF xs[k] = false) : wh xs k m = false := by
 unfold wh
 rw [List.drop_eq_getElem_cons h, List.all_cons, hb]; rfl
theorem xaC (xs : List TyI) (k m : Nat) (h : k < xs.length) (hb : xF xs[k] = true) : wh xs k (m + 1) = wh xs (k + 1) (m + xs[k].ar.toNat) := by
 unfold wh
 rw [List.drop_eq_getElem_cons h, List.all_cons, hb, Bool.true_and]
 congr 1
 have : xT xs k (m + 1) = xT xs (k + 1) (m + xs[k].ar.toNat) := by
  unfold xT
  rw [Yi xs k h, scan]
  cases scan ((arsM xs).drop (k + 1)) (m + xs[k].ar.toNat) with
  | none => rfl
  | some j => simp only [Option.map_some]; congr 1; omega
 rw [this]
theorem restM_end (xs : List TyI) (k m : Nat) (h : k = xs.length) : wh xs k m = decide (m = 0) := by
 subst h
 unfold wh xT
 rw [List.drop_eq_nil_of_le (Nat.le_refl _), List.drop_eq_nil_of_le (by unfold arsM; simp)]
 cases m with
 | zero => simp [scan]
 | succ m => simp [scan]
end
section
open Go.RowKit
def Y8 (k : Int) : List UInt8 := 109 :: decL k.toNat
theorem markT_pos {K : Nat} (l : List UInt8) (h : decL K = l) : (⟨#[109]⟩ : ByteArray) ++ bs l = bs (Y8 (K : Int)) := by
 unfold Y8; rw [Int.toNat_natCast, h]; exact str_app [109] l
def mInv (K n : Nat) (l : List UInt8) : Prop := (0 < n -> decL K = decL n ++ l) /\ (n = 0 -> decL K = l) /\ l.length <= 20
theorem mInv_step {K n : Nat} {l : List UInt8} (h : mInv K n l) (h0 : 0 < n) (hK : K <= 4611686018427387904) : mInv K (n / 10) (dgt (n % 10) :: l) := by
 have e := h.1 h0
 have key : decL K = (if 0 < n / 10 then decL (n / 10) ++ (dgt (n % 10) :: l) else dgt (n % 10) :: l) := by
  by_cases q : 0 < n / 10
  ·rw [if_pos q, e, V3 (by omega)]; simp
  ·rw [if_neg q, e, vd (by omega), Nat.mod_eq_of_lt (by omega)]; simp
 refine ⟨fun q => by rw [key, if_pos q], fun q => by rw [key, if_neg (by omega)], ?_⟩
 have hl := V4 18 K (by omega)
 rw [key] at hl
 split at hl
 ·rw [List.length_append] at hl; omega
 ·omega
theorem Vv (w : World) (k : Int) (hk : k <= 4611686018427387904) : Calls Tryz.prog 110 #[.int .i64 k] w fun e w' => e = .returned (.string (bs (Y8 k))) /\ Below w.heap.size w w' := by
 by_cases h0 : k <= 0
 ·have e : bs (Y8 k) = (⟨#[109, 48]⟩ : ByteArray) := by
   have : k.toNat = 0 := by omega
   unfold Y8; rw [this, vd (by omega)]; rfl
  rw [e]
  go_enter Tryz.func110, Tryz.ntmps110
  go_wp2_with fail
  go_ret
  exact ⟨rfl, (by repeat (first | with_reducible exact Below.refl _ _ | with_reducible assumption | with_reducible refine Below.setCell ?_ ?_ _ | with_reducible refine Below.alloc ?_ ?_ _ | with_reducible refine Below.drew ?_ | (with_reducible apply zA; with_reducible assumption) | exact Nat.le_refl _ | omega | (simp <;> omega)))⟩
 ·obtain ⟨K, rfl⟩ : ∃ K : Nat, k = K := ⟨k.toNat, by omega⟩
  go_enter Tryz.func110, Tryz.ntmps110
  go_wp2_with fail
  go_loopw [0, 3] (fun kv ov wr => ∃ (n : Nat) (l : List UInt8), n <= K /\ kv = .int .i64 n /\ ov = .string (bs l) /\ mInv K n l /\ Below w.heap.size w wr) (fun kv _ _ => (intOf kv).toNat)
  case atStart => exact ⟨K, [], by omega, rfl, rfl, ⟨fun _ => by simp, fun q => by omega, by simp⟩, Below.refl _ _⟩
  case round =>
   obtain ⟨n, l, hn, rfl, rfl, hinv, hbel⟩ := hrel
   have HI := Lib.hid hinv
   have hl := hinv.2.2
   clear hinv
   by_cases hp : 0 < n
   ·have hp' : ((n : Nat) : Int) > 0 := by omega
    have hd : n % 10 < 10 := Nat.mod_lt _ (by omega)
    have e1 : Int.tmod (n : Int) 10 = ((n % 10 : Nat) : Int) := by rw [Int.tmod_eq_emod_of_nonneg (by omega)]; rfl
    have e2 : Int.tdiv (n : Int) 10 = ((n / 10 : Nat) : Int) := by rw [Int.tdiv_eq_ediv_of_nonneg (by omega)]; rfl
    have hcv := Q3 (48 + ((n % 10 : Nat) : Int)) _ (dgtV hd)
    have e3 : IntKind.i64.wrap (48 + ((n % 10 : Nat) : Int)) = 48 + ((n % 10 : Nat) : Int) := IntWalk.i64_in _ (by omega)
    have e4 : IntKind.u8.wrap (48 + ((n % 10 : Nat) : Int)) = 48 + ((n % 10 : Nat) : Int) := IntWalk.u8_in _ (by omega)
    have z1 : (bs l).size <= 20 := by rw [WM]; exact hl
    have z2 : (bs [dgt (n % 10)]).size <= 1 := by rw [WM]; simp
    have HS := Lib.hid (mInv_step HI.out hp (by omega))
    go_wp2_with fail
    go_roundw
    case rel => exact ⟨n / 10, dgt (n % 10) :: l, by omega, congrArg (Value.int .i64) (by omega), by rw [str_app]; rfl, HS.out, (by first | exact hbel.alloc hbel.size _ | exact hbel)⟩
    case measure => simp [intOf]; omega
   ·have hn0 : n = 0 := by omega
    have hp' : ¬ ((n : Nat) : Int) > 0 := by omega
    have z1 : (bs l).size <= 20 := by rw [WM]; exact hl
    have HE := Lib.hid (markT_pos l (HI.out.2.1 hn0))
    clear hn0
    go_wp2_with fail
    go_ret
    exact ⟨by rw [<- HE.out]; rfl, (by repeat (first | with_reducible exact Below.refl _ _ | with_reducible assumption | with_reducible refine Below.setCell ?_ ?_ _ | with_reducible refine Below.alloc ?_ ?_ _ | with_reducible refine Below.drew ?_ | (with_reducible apply zA; with_reducible assumption) | exact Nat.le_refl _ | omega | (simp <;> omega)))⟩
def mkB (k : Int) : ByteArray := bs (Y8 k)
theorem x6 (k : Int) (hk : k <= 4611686018427387904) : FCon Tryz.prog 110 [.s (.int .i64 k)] (fun r _ => r = .s (.string (mkB k))) := by
 refine FCon.ofBelow (Rv := fun v => v = .string (mkB k)) Tryz.func110 rfl rfl ?_ rfl ?_
 ·rintro _ rfl; exact ⟨rfl, rfl⟩
 ·intro w S up vs hl hv
  obtain ⟨v, rfl, h⟩ := one_arg (P := fun _ d u => RB S up w d u) hl hv
  have := Rep.s_inv (show Rep S up w none (.s (.int .i64 k)) v from h)
  subst this
  exact (Vv w k hk).mono fun e w' h => ⟨_, h.1, rfl, h.2⟩
def iE (n : Int) : List D := [.s (.int .i64 n)]
theorem xn (n : Int) : iE n = [.s (.int .i64 n)] := rfl
abbrev xJ (l : List Int) : D := .sl 1 (l.map iE)
def yP {α : Type} (f : α -> List D) (z : List D) (xs : List α) (i : Nat) : List (List D) := (xs.take i).map f ++ List.replicate (xs.length - i) z
section
variable {α : Type} {f : α -> List D} {z : List D} {xs : List α} {i : Nat}
theorem zm : yP f z xs 0 = List.replicate xs.length z := by simp [yP]
theorem z5 : yP f z xs xs.length = xs.map f := by simp [yP]
theorem z7 (h : i <= xs.length) : (yP f z xs i).length = xs.length := by simp [yP]; omega
theorem z8 (h : i < xs.length) : (yP f z xs i).set i (f xs[i]) = yP f z xs (i + 1) := by
 unfold yP
 have e : (xs.length - i) = (xs.length - (i + 1)) + 1 := by omega
 rw [List.set_append_right _ _ (by simp; omega), List.length_map, List.length_take, Nat.min_eq_left (by omega), Nat.sub_self, e, List.replicate_succ, List.set_cons_zero, List.take_succ_eq_append_getElem h, List.map_append]
 simp
theorem z6 (h : i < xs.length) : (yP f z xs i).getD i [] = z := by
 unfold yP
 rw [List.getD_eq_getElem?_getD, List.getElem?_append_right (by simp; omega)]
 have e : (xs.length - i) = (xs.length - (i + 1)) + 1 := by omega
 simp [Nat.min_eq_left (Nat.le_of_lt h), e, List.replicate_succ]
theorem xR {g : α -> List D} (h : ∀ x, frzL (f x) = g x) (xs : List α) : xN (xs.map f) = xs.map g := by
 rw [yX, List.map_map]; exact List.map_congr_left fun x _ => h x
end
theorem takeL {α : Type} {l : List α} {i : Nat} (h : l.length = i) : l.take i = l := List.take_of_length_le (by omega)
theorem frzLL_app (a b : List (List D)) : xN (a ++ b) = xN a ++ xN b := by rw [yX, yX, yX, List.map_append]
theorem frzLL_nil : xN [] = [] := rfl
theorem xat (r : List D) (l : List (List D)) : xN (r :: l) = frzL r :: xN l := rfl
def smS {α : Type} (s : α -> Prop) (xs : List α) : Prop := xs.length <= 1048576 /\ ∀ x ∈ xs, s x
theorem xq {a b : Int} (h : a = b) : D.s (.int .i64 a) = .s (.int .i64 b) := by rw [h]
def cnts {α : Type} (c : α -> Nat) : List α -> Nat
 | [] => 0
 | x :: l => c x + cnts c l
def marks {α : Type} (c : α -> Nat) (m : Int -> α -> α) : Int -> List α -> List α
 | _, [] => []
 | k, x :: l => m k x :: marks c m (k + c x) l
section
variable {α : Type} {c : α -> Nat} {m : Int -> α -> α}
theorem xh : ∀ (k : Int) (xs : List α), (marks c m k xs).length = xs.length
 | _, [] => rfl
 | k, x :: l => by simp [marks, xh (k + c x) l]
theorem uX {n : Nat} (hc : ∀ x, c x = n) : ∀ (xs : List α), cnts c xs = n * xs.length
 | [] => rfl
 | x :: l => by rw [cnts, hc, uX hc l, List.length_cons, Nat.mul_add]; omega
theorem ZH : ∀ (a b : List α), cnts c (a ++ b) = cnts c a + cnts c b
 | [], b => by simp [cnts]
 | x :: l, b => by simp [cnts, ZH l b]; omega
theorem yV {xs : List α} {i : Nat} (h : i < xs.length) : cnts c (xs.take (i + 1)) = cnts c (xs.take i) + c xs[i] := by
 rw [List.take_succ_eq_append_getElem h, ZH]; simp [cnts]
theorem wC (xs : List α) (i : Nat) : cnts c (xs.take i) <= cnts c xs := by
 have := ZH (c := c) (xs.take i) (xs.drop i)
 rw [List.take_append_drop] at this; omega
theorem YH : ∀ (k : Int) (a b : List α), marks c m k (a ++ b) = marks c m k a ++ marks c m (k + cnts c a) b
 | k, [], b => by simp [marks, cnts]
 | k, x :: l, b => by
  have e : k + (c x : Int) + (cnts c l : Int) = k + ((c x + cnts c l : Nat) : Int) := by push_cast; omega
  simp [marks, cnts, YH (k + c x) l b, Int.add_assoc]
def stM (c : α -> Nat) (m : Int -> α -> α) (k : Int) (xs : List α) (i : Nat) : List α := marks c m k (xs.take i) ++ xs.drop i
theorem wv (k : Int) (xs : List α) : stM c m k xs 0 = xs := by simp [stM, marks]
theorem uq (k : Int) (xs : List α) : stM c m k xs xs.length = marks c m k xs := by simp [stM]
theorem ut (k : Int) {xs : List α} {i : Nat} (h : i <= xs.length) : (stM c m k xs i).length = xs.length := by simp [stM, xh]; omega
theorem ur (k : Int) {xs : List α} {i : Nat} (h : i < xs.length) (f : α -> List D) : ((stM c m k xs i).map f).getD i [] = f xs[i] := by
 rw [List.getD_eq_getElem?_getD, List.getElem?_map, stM, List.getElem?_append_right (by simp [xh]; omega)]
 have e : i - (marks c m k (xs.take i)).length = 0 := by simp [xh]; omega
 rw [e, List.drop_eq_getElem_cons h]; rfl
theorem wK (k : Int) {xs : List α} {i : Nat} (h : i < xs.length) (f : α -> List D) : ((stM c m k xs i).map f).set i (f (m (k + cnts c (xs.take i)) xs[i])) = (stM c m k xs (i + 1)).map f := by
 rw [<- List.map_set]
 congr 1
 unfold stM
 have hl : (marks c m k (xs.take i)).length = i := by simp [xh]; omega
 rw [List.set_append_right _ _ (by omega), hl, Nat.sub_self, List.drop_eq_getElem_cons h, List.set_cons_zero, List.take_succ_eq_append_getElem h, YH, List.append_assoc]
 rfl
theorem marks_get (k : Int) {xs : List α} {i : Nat} (h : i < xs.length) (f : α -> List D) : ((marks c m k xs).map f).getD i [] = f (m (k + cnts c (xs.take i)) xs[i]) := by
 have e := wK (c := c) (m := m) k h f
 have hs : marks c m k xs = stM c m k xs (i + 1) ++ [] \/ True := .inr trivial
 have : marks c m k xs = marks c m k (xs.take i) ++ marks c m (k + cnts c (xs.take i)) (xs.drop i) := by rw [<- YH, List.take_append_drop]
 rw [this, List.getD_eq_getElem?_getD, List.getElem?_map, List.getElem?_append_right (by simp [xh]; omega)]
 have e : i - (marks c m k (xs.take i)).length = 0 := by simp [xh]; omega
 rw [e, List.drop_eq_getElem_cons h]; rfl
end
attribute [go_sem] takeL frzLL_app frzLL_nil xat Nat.le_refl
end
section
attribute [local go_sem] List.length_set List.set_set
open Go.RowKit Go.ChangeShapes Go.WideShapes
theorem iE_frz (x : Int) : frzL (iE x) = iE x := rfl
theorem WU (x : Int) : ∀ d ∈ iE x, Pure d := by
 simp only [xn, List.forall_mem_cons, List.not_mem_nil, false_imp_iff, implies_true, and_true]
 exact .s _
theorem iE_pureS (e k : Nat) (xs : List Int) : Pure (.osl e k (xs.map iE)) = True := eq_true (xD WU e k xs)
attribute [go_sem] iE_pureS
theorem iE_frzS (xs : List Int) : xN (xs.map iE) = xs.map iE := xR iE_frz xs
attribute [go_sem] iE_frzS
theorem VT (xs : List Int) (hs : smS (fun _ : Int => True) xs) : FCon Tryz.prog 135 [.sl 1 (xs.map iE)] (fun r _ => r = .osl 3 1 (xs.map iE)) := by
 have hl := hs.1
 refine FI PM Tryz.func135 Tryz.ntmps135 [] rfl rfl ?_
 (have hWf := f0; repeat' (first | refine zS ?_ | refine zI ?_ ?_ | exact zF0 | refine zD fun hb => ?_ | exact zC | refine zT ?_ | fail))
 refine xd (fun n σ => ∃ k : Nat, k <= xs.length /\ n = xs.length - k /\ σ.t 0 = .sl 1 (xs.map iE) /\ σ.t 3 = .bs 7 1 xs.length /\ σ.t 4 = .s (.int .i64 k) /\ σ.b 7 = some (.arr 3 1 (yP iE [.s (.int .i64 0)] xs k))) xs.length ⟨0, by omega, by omega, ?_⟩ ?_
 ·simp only [go_sem, simprocAttr, zm, Int.natCast_zero]
 ·rintro n σ ⟨k, hk, rfl, h0, h3, h4, h7⟩ K' hK
  by_cases hlt : k < xs.length
  ·have hx := xb iE xs k hlt
   have he := xn xs[k]
   have hpl := z7 (f := iE) (z := [.s (.int .i64 0)]) (Nat.le_of_lt hlt)
   have hg := z6 (f := iE) (z := [.s (.int .i64 0)]) hlt
   have hst := z8 (f := iE) (z := [.s (.int .i64 0)]) hlt
   rw [xn] at hst
   (have hWf := w10 @h0 @h3 @h4 @h7 @hx @he @xn @hpl @hg @hst; repeat' (first | refine zS ?_ | refine zI ?_ ?_ | exact zF0 | refine zD fun hb => ?_ | exact zC | refine zT ?_ | fail))
   refine hK (xs.length - (k + 1)) _ (by omega) ⟨k + 1, by omega, rfl, ?_⟩
   simp only [go_sem, simprocAttr, h0, h3, h4, h7, Int.natCast_succ]
  ·obtain rfl : k = xs.length := by omega
   rw [z5] at h7
   (have hWf := w4 @h0 @h3 @h4 @h7; repeat' (first | refine zS ?_ | refine zI ?_ ?_ | exact zF0 | refine zD fun hb => ?_ | exact zC | refine zT ?_ | fail))
theorem VJ (xs : List Int) : FCon Tryz.prog 25 [.sl 1 (xs.map iE), .sl 1 (xs.map iE)] (fun r _ => r = .s (.bool true)) := by
 refine FI PM Tryz.func25 Tryz.ntmps25 [(6, 8, [], [], (lin [] [0, 1, 2, 3, 4, 5, 6, 7]))] rfl rfl ?_
 refine x5 0 rfl trivial fun hlen => ?_
 simp only [List.length_map] at hlen
 (have hWf := f0; repeat' (first | refine zS ?_ | refine zI ?_ ?_ | exact zF0 | refine zD fun hb => ?_ | exact zC | refine zT ?_ | fail))
 refine xd (fun n σ => ∃ k : Nat, k <= xs.length /\ n = xs.length - k /\ σ.t 0 = .sl 1 (xs.map iE) /\ σ.t 1 = .sl 1 (xs.map iE) /\ σ.t 5 = .s (.int .i64 k)) xs.length ⟨0, by omega, by omega, ?_⟩ ?_
 ·simp only [go_sem, simprocAttr, Int.natCast_zero]
 ·rintro n σ ⟨k, hk, rfl, h0, h1, h5⟩ K' hK
  by_cases hlt : k < xs.length
  ·have hx := xb iE xs k hlt
   have he := xn xs[k]
   (have hWf := w5 @h0 @h1 @h5 @hx @he; repeat' (first | refine zS ?_ | refine zI ?_ ?_ | exact zF0 | refine zD fun hb => ?_ | exact zC | refine zT ?_ | fail))
   all_goals
    refine hK (xs.length - (k + 1)) _ (by omega) ⟨k + 1, by omega, rfl, ?_⟩
    simp only [go_sem, simprocAttr, h0, h1, h5, Int.natCast_succ]
  ·(have hWf := w3 @h0 @h1 @h5; repeat' (first | refine zS ?_ | refine zI ?_ ?_ | exact zF0 | refine zD fun hb => ?_ | exact zC | refine zT ?_ | fail))
theorem uU (xs : List Int) (hl : xs.length <= 1048576) (k : Int) (h0 : 0 <= k) (hk : k + cnts (fun _ : Int => 1) xs <= 4611686018427387904) : FCon Tryz.prog 26 [.osl 3 1 (xs.map iE), .s (.int .i64 k)] (fun r o => r = .s (.int .i64 (k + cnts (fun _ : Int => 1) xs)) /\ o = [.osl 3 1 ((marks (fun _ : Int => 1) (fun k _ => k) k xs).map iE), .un]) := by
 refine FI PM Tryz.func26 Tryz.ntmps26 [] rfl rfl ?_
 (have hWf := f0; repeat' (first | refine zS ?_ | refine zI ?_ ?_ | exact zF0 | refine zD fun hb => ?_ | exact zC | refine zT ?_ | fail))
 refine xd (fun n σ => ∃ i : Nat, i <= xs.length /\ n = xs.length - i /\ σ.t 0 = .bs 900000 1 xs.length /\ σ.t 1 = .s (.int .i64 (k + cnts (fun _ : Int => 1) (xs.take i))) /\ σ.t 5 = .s (.int .i64 i) /\ σ.b 900000 = some (.arr 3 1 ((stM (fun _ : Int => 1) (fun k _ => k) k xs i).map iE))) xs.length ⟨0, by omega, by omega, ?_⟩ ?_
 ·simp only [go_sem, simprocAttr, Int.natCast_zero, wv, List.take_zero, cnts, Int.add_zero]
 ·rintro n σ ⟨i, hi, rfl, h0, h1, h5, h9⟩ K' hK
  by_cases hlt : i < xs.length
  ·have hc := yV (c := (fun _ : Int => 1)) hlt
   have hc' := wC (c := (fun _ : Int => 1)) xs (i + 1)
   have hx := ur (c := (fun _ : Int => 1)) (m := (fun k _ => k)) k hlt iE
   have hpl := ut (c := (fun _ : Int => 1)) (m := (fun k _ => k)) k (Nat.le_of_lt hlt)
   have hst := wK (c := (fun _ : Int => 1)) (m := (fun k _ => k)) k hlt iE
   have hgs : ∀ r, (((stM (fun _ : Int => 1) (fun k _ => k) k xs i).map iE).set i r).getD i [] = r := fun r => by rw [List.getD_eq_getElem?_getD, List.getElem?_set_self (by rw [List.length_map, hpl]; exact hlt)]; rfl
   simp only [xn] at hx hst
   (have hWf := w9 @h0 @h1 @h5 @h9 @hx @hpl @hgs @hst @xn; repeat' (first | refine zS ?_ | refine zI ?_ ?_ | exact zF0 | refine zD fun hb => ?_ | exact zC | refine zT ?_ | fail))
   refine hK (xs.length - (i + 1)) _ (by omega) ⟨i + 1, by omega, rfl, ?_⟩
   simp only [go_sem, simprocAttr, h0, h1, h5, h9, Int.natCast_succ, hst]
   exact xq (by rw [hc]; push_cast; omega)
  ·obtain rfl : i = xs.length := by omega
   rw [uq] at h9
   rw [List.take_length] at h1
   (have hWf := w5 @h0 @h1 @h5 @h9 @xh; repeat' (first | refine zS ?_ | refine zI ?_ ?_ | exact zF0 | refine zD fun hb => ?_ | exact zC | refine zT ?_ | fail))
end
section
attribute [local go_sem] List.length_set List.set_set
open Go.RowKit Go.ChangeShapes Go.WideShapes
def TyI.enc (x : TyI) : List D := [.s (.int .i64 x.v), .s (.string x.name), .s (.int .i64 x.ar)]
theorem TyI.enc_eq (x : TyI) : x.enc = [.s (.int .i64 x.v), .s (.string x.name), .s (.int .i64 x.ar)] := rfl
abbrev TyI.own (x : TyI) : List D := x.enc
theorem TyI.own_eq (x : TyI) : x.own = [.s (.int .i64 x.v), .s (.string x.name), .s (.int .i64 x.ar)] := rfl
theorem TyI.frz_eq (x : TyI) : frzL x.own = x.enc := by
 simp only [TyI.own_eq, TyI.enc_eq, frzL, frz]
def TyI.sm (x : TyI) : Prop := x.name.size <= 1048576
def TyI.cnt (x : TyI) : Nat := 3
def TyI.mark (k : Int) (x : TyI) : TyI := ⟨k, mkB (k + 1), ((k + 1) + 1)⟩
theorem TyI.cnt_eq (x : TyI) : x.cnt = 3 := rfl
theorem TyI.pure (x : TyI) : ∀ d ∈ x.own, Pure d := by
 simp only [TyI.own_eq, List.forall_mem_cons, List.not_mem_nil, false_imp_iff, implies_true, and_true]
 exact ⟨.s _, .s _, .s _⟩
theorem TyI.pureS (e k : Nat) (xs : List TyI) : Pure (.osl e k (xs.map TyI.own)) = True := eq_true (xD TyI.pure e k xs)
attribute [go_sem] TyI.pureS
theorem TyI.frzS (xs : List TyI) : xN (xs.map TyI.own) = xs.map TyI.enc := xR TyI.frz_eq xs
attribute [go_sem] TyI.frzS
theorem Wp (x : TyI) (hs : x.sm) : FCon Tryz.prog 258 [.ag x.enc] (fun r _ => r = .ag x.own) := by
 refine FI PM Tryz.func258 Tryz.ntmps258 [] rfl rfl ?_
 (have hWf := w2 @TyI.enc_eq @TyI.own_eq; repeat' (first | refine zS ?_ | refine zI ?_ ?_ | exact zF0 | refine zD fun hb => ?_ | exact zC | refine zT ?_ | fail))
theorem QV (xs : List TyI) (hs : smS TyI.sm xs) : FCon Tryz.prog 243 [.sl 3 (xs.map TyI.enc)] (fun r _ => r = .osl 143 3 (xs.map TyI.own)) := by
 have hl := hs.1
 refine FI PM Tryz.func243 Tryz.ntmps243 [] rfl rfl ?_
 (have hWf := f0; repeat' (first | refine zS ?_ | refine zI ?_ ?_ | exact zF0 | refine zD fun hb => ?_ | exact zC | refine zT ?_ | fail))
 refine xd (fun n σ => ∃ k : Nat, k <= xs.length /\ n = xs.length - k /\ σ.t 0 = .sl 3 (xs.map TyI.enc) /\ σ.t 3 = .bs 7 3 xs.length /\ σ.t 4 = .s (.int .i64 k) /\ σ.b 7 = some (.arr 143 3 (yP TyI.own [.s (.int .i64 0), .s (.string ⟨#[]⟩), .s (.int .i64 0)] xs k))) xs.length ⟨0, by omega, by omega, ?_⟩ ?_
 ·simp only [go_sem, simprocAttr, zm, Int.natCast_zero]
 ·rintro n σ ⟨k, hk, rfl, h0, h3, h4, h7⟩ K' hK
  by_cases hlt : k < xs.length
  ·have hx := xb TyI.enc xs k hlt
   have he := TyI.enc_eq xs[k]
   have hpl := z7 (f := TyI.own) (z := [.s (.int .i64 0), .s (.string ⟨#[]⟩), .s (.int .i64 0)]) (Nat.le_of_lt hlt)
   have hg := z6 (f := TyI.own) (z := [.s (.int .i64 0), .s (.string ⟨#[]⟩), .s (.int .i64 0)]) hlt
   have hst := z8 (f := TyI.own) (z := [.s (.int .i64 0), .s (.string ⟨#[]⟩), .s (.int .i64 0)]) hlt
   rw [TyI.own_eq] at hst
   (have hWf := w10 @h0 @h3 @h4 @h7 @hx @he @TyI.own_eq @hpl @hg @hst; repeat' (first | refine zS ?_ | refine zI ?_ ?_ | ((with_reducible apply xc); refine zG (Wp xs[k] (hs.2 _ (List.getElem_mem hlt))) ?_) | ((with_reducible apply xf); refine xe (Wp xs[k] (hs.2 _ (List.getElem_mem hlt))) ?_) | exact zF0 | refine zD fun hb => ?_ | exact zC | refine zT ?_ | fail))
   refine hK (xs.length - (k + 1)) _ (by omega) ⟨k + 1, by omega, rfl, ?_⟩
   simp only [go_sem, simprocAttr, h0, h3, h4, h7, Int.natCast_succ]
  ·obtain rfl : k = xs.length := by omega
   rw [z5] at h7
   (have hWf := w4 @h0 @h3 @h4 @h7; repeat' (first | refine zS ?_ | refine zI ?_ ?_ | exact zF0 | refine zD fun hb => ?_ | exact zC | refine zT ?_ | fail))
theorem xaa (x : TyI) : FCon Tryz.prog 106 [.ag x.enc, .ag x.enc] (fun r _ => r = .s (.bool true)) := by
 refine FI PM Tryz.func106 Tryz.ntmps106 [] rfl rfl ?_
 (have hWf := w1 @TyI.enc_eq; repeat' (first | refine zS ?_ | refine zI ?_ ?_ | exact zF0 | refine zD fun hb => ?_ | exact zC | refine zT ?_ | fail))
theorem QO (xs : List TyI) : FCon Tryz.prog 51 [.sl 3 (xs.map TyI.enc), .sl 3 (xs.map TyI.enc)] (fun r _ => r = .s (.bool true)) := by
 refine FI PM Tryz.func51 Tryz.ntmps51 [(6, 8, [], [], (lin [] [0, 1, 2, 3, 4, 5, 6, 7]))] rfl rfl ?_
 refine x5 0 rfl trivial fun hlen => ?_
 simp only [List.length_map] at hlen
 (have hWf := f0; repeat' (first | refine zS ?_ | refine zI ?_ ?_ | exact zF0 | refine zD fun hb => ?_ | exact zC | refine zT ?_ | fail))
 refine xd (fun n σ => ∃ k : Nat, k <= xs.length /\ n = xs.length - k /\ σ.t 0 = .sl 3 (xs.map TyI.enc) /\ σ.t 1 = .sl 3 (xs.map TyI.enc) /\ σ.t 5 = .s (.int .i64 k)) xs.length ⟨0, by omega, by omega, ?_⟩ ?_
 ·simp only [go_sem, simprocAttr, Int.natCast_zero]
 ·rintro n σ ⟨k, hk, rfl, h0, h1, h5⟩ K' hK
  by_cases hlt : k < xs.length
  ·have hx := xb TyI.enc xs k hlt
   have he := TyI.enc_eq xs[k]
   (have hWf := w5 @h0 @h1 @h5 @hx @he; repeat' (first | refine zS ?_ | refine zI ?_ ?_ | refine zK (xaa xs[k]) ?_ | exact zF0 | refine zD fun hb => ?_ | exact zC | refine zT ?_ | fail))
   all_goals
    refine hK (xs.length - (k + 1)) _ (by omega) ⟨k + 1, by omega, rfl, ?_⟩
    simp only [go_sem, simprocAttr, h0, h1, h5, Int.natCast_succ]
  ·(have hWf := w3 @h0 @h1 @h5; repeat' (first | refine zS ?_ | refine zI ?_ ?_ | exact zF0 | refine zD fun hb => ?_ | exact zC | refine zT ?_ | fail))
theorem wn (xs : List TyI) (hl : xs.length <= 1048576) (k : Int) (h0 : 0 <= k) (hk : k + cnts TyI.cnt xs <= 4611686018427387904) : FCon Tryz.prog 58 [.osl 143 3 (xs.map TyI.own), .s (.int .i64 k)] (fun r o => r = .s (.int .i64 (k + cnts TyI.cnt xs)) /\ o = [.osl 143 3 ((marks TyI.cnt TyI.mark k xs).map TyI.own), .un]) := by
 refine FI PM Tryz.func58 Tryz.ntmps58 [] rfl rfl ?_
 (have hWf := f0; repeat' (first | refine zS ?_ | refine zI ?_ ?_ | exact zF0 | refine zD fun hb => ?_ | exact zC | refine zT ?_ | fail))
 refine xd (fun n σ => ∃ i : Nat, i <= xs.length /\ n = xs.length - i /\ σ.t 0 = .bs 900000 3 xs.length /\ σ.t 1 = .s (.int .i64 (k + cnts TyI.cnt (xs.take i))) /\ σ.t 5 = .s (.int .i64 i) /\ σ.b 900000 = some (.arr 143 3 ((stM TyI.cnt TyI.mark k xs i).map TyI.own))) xs.length ⟨0, by omega, by omega, ?_⟩ ?_
 ·simp only [go_sem, simprocAttr, Int.natCast_zero, wv, List.take_zero, cnts, Int.add_zero]
 ·rintro n σ ⟨i, hi, rfl, h0, h1, h5, h9⟩ K' hK
  by_cases hlt : i < xs.length
  ·have hc := yV (c := TyI.cnt) hlt
   have hc' := wC (c := TyI.cnt) xs (i + 1)
   have hx := ur (c := TyI.cnt) (m := TyI.mark) k hlt TyI.own
   have hpl := ut (c := TyI.cnt) (m := TyI.mark) k (Nat.le_of_lt hlt)
   have hst := wK (c := TyI.cnt) (m := TyI.mark) k hlt TyI.own
   have hgs : ∀ r, (((stM TyI.cnt TyI.mark k xs i).map TyI.own).set i r).getD i [] = r := fun r => by rw [List.getD_eq_getElem?_getD, List.getElem?_set_self (by rw [List.length_map, hpl]; exact hlt)]; rfl
   simp only [TyI.own_eq, TyI.mark] at hx hst
   simp only [TyI.cnt] at hc
   (have hWf := w9 @h0 @h1 @h5 @h9 @hx @hpl @hgs @hst @TyI.own_eq; repeat' (first | refine zS ?_ | refine zI ?_ ?_ | ((with_reducible apply xc); refine zG (x6 ((k + (cnts TyI.cnt (xs.take i) : Nat)) + 1) (by omega)) ?_) | ((with_reducible apply xf); refine xe (x6 ((k + (cnts TyI.cnt (xs.take i) : Nat)) + 1) (by omega)) ?_) | exact zF0 | refine zD fun hb => ?_ | exact zC | refine zT ?_ | fail))
   refine hK (xs.length - (i + 1)) _ (by omega) ⟨i + 1, by omega, rfl, ?_⟩
   simp only [go_sem, simprocAttr, h0, h1, h5, h9, Int.natCast_succ, hst]
   exact xq (by rw [hc]; push_cast; omega)
  ·obtain rfl : i = xs.length := by omega
   rw [uq] at h9
   rw [List.take_length] at h1
   (have hWf := w5 @h0 @h1 @h5 @h9 @xh; repeat' (first | refine zS ?_ | refine zI ?_ ?_ | exact zF0 | refine zD fun hb => ?_ | exact zC | refine zT ?_ | fail))
theorem X8 (xs : List TyI) (hl : xs.length <= 1048576) (k : Int) (h0 : 0 <= k) (hk : k + cnts TyI.cnt xs <= 4611686018427387904) : FCon Tryz.prog 59 [.sl 3 ((marks TyI.cnt TyI.mark k xs).map TyI.enc), .s (.int .i64 k)] (fun r _ => r = .s (.int .i64 (k + cnts TyI.cnt xs))) := by
 refine FI PM Tryz.func59 Tryz.ntmps59 [(7, 7, [], [], (lin [] [0, 1, 2, 3, 4, 5, 6]))] rfl rfl ?_
 have hml := xh (c := TyI.cnt) (m := TyI.mark) k xs
 (have hWf := f0; repeat' (first | refine zS ?_ | refine zI ?_ ?_ | exact zF0 | refine zD fun hb => ?_ | exact zC | refine zT ?_ | fail))
 refine xd (fun n σ => ∃ i : Nat, i <= xs.length /\ n = xs.length - i /\ σ.t 0 = .sl 3 ((marks TyI.cnt TyI.mark k xs).map TyI.enc) /\ σ.t 1 = .s (.int .i64 (k + cnts TyI.cnt (xs.take i))) /\ σ.t 5 = .s (.int .i64 i)) xs.length ⟨0, by omega, by omega, ?_⟩ ?_
 ·simp only [go_sem, simprocAttr, Int.natCast_zero, List.take_zero, cnts, Int.add_zero]
 ·rintro n σ ⟨i, hi, rfl, h0, h1, h5⟩ K' hK
  by_cases hlt : i < xs.length
  ·have hc := yV (c := TyI.cnt) hlt
   have hc' := wC (c := TyI.cnt) xs (i + 1)
   have hx := marks_get (c := TyI.cnt) (m := TyI.mark) k hlt TyI.enc
   simp only [TyI.enc_eq, TyI.mark] at hx
   simp only [TyI.cnt] at hc
   (have hWf := w5 @h0 @h1 @h5 @hx @hml; repeat' (first | refine zS ?_ | refine zI ?_ ?_ | ((with_reducible apply xc); refine zG (x6 ((k + (cnts TyI.cnt (xs.take i) : Nat)) + 1) (by omega)) ?_) | ((with_reducible apply xf); refine xe (x6 ((k + (cnts TyI.cnt (xs.take i) : Nat)) + 1) (by omega)) ?_) | exact zF0 | refine zD fun hb => ?_ | exact zC | refine zT ?_ | fail))
   all_goals
    refine hK (xs.length - (i + 1)) _ (by omega) ⟨i + 1, by omega, rfl, ?_⟩
    simp only [go_sem, simprocAttr, h0, h1, h5, Int.natCast_succ]
    exact xq (by rw [hc]; push_cast; omega)
  ·obtain rfl : i = xs.length := by omega
   rw [List.take_length] at h1
   (have hWf := w4 @h0 @h1 @h5 @hml; repeat' (first | refine zS ?_ | refine zI ?_ ?_ | exact zF0 | refine zD fun hb => ?_ | exact zC | refine zT ?_ | fail))
end
section
open Go.RowKit Go.ChangeShapes Go.WideShapes
structure MTy where
 items : List TyI
def MTy.enc (x : MTy) : List D := [.sl 3 (x.items.map TyI.enc)]
theorem MTy.enc_eq (x : MTy) : x.enc = [.sl 3 (x.items.map TyI.enc)] := rfl
def MTy.own (x : MTy) : List D := [.osl 143 3 (x.items.map TyI.own)]
theorem MTy.own_eq (x : MTy) : x.own = [.osl 143 3 (x.items.map TyI.own)] := rfl
def MTy.ok (x : MTy) : Prop := (∀ y ∈ x.items, y.ok)
def MTy.sm (x : MTy) : Prop := smS TyI.sm x.items
def MTy.cnt (x : MTy) : Nat := cnts TyI.cnt x.items
def MTy.mark (k : Int) (x : MTy) : MTy := ⟨marks TyI.cnt TyI.mark k x.items⟩
theorem MTy.cnt_eq (x : MTy) : x.cnt = cnts TyI.cnt x.items := rfl
theorem MTy.mark_eq (k : Int) (x : MTy) : MTy.mark k x = ⟨marks TyI.cnt TyI.mark k x.items⟩ := rfl
theorem c_toTy (x : MTy) (hs : x.sm) : FCon Tryz.prog 223 [.ag x.enc] (fun r _ => r = .ag x.own) := by
 refine FI PM Tryz.func223 Tryz.ntmps223 [] rfl rfl ?_
 (have hWf := w2 @MTy.enc_eq @MTy.own_eq; repeat' (first | refine zS ?_ | refine zI ?_ ?_ | refine zK (QV x.items (hs)) ?_ | exact zF0 | refine zD fun hb => ?_ | exact zC | refine zT ?_ | fail))
theorem c_eqTy (x : MTy) : FCon Tryz.prog 14 [.ag x.enc, .ag x.enc] (fun r _ => r = .s (.bool true)) := by
 refine FI PM Tryz.func14 Tryz.ntmps14 [] rfl rfl ?_
 (have hWf := w1 @MTy.enc_eq; repeat' (first | refine zS ?_ | refine zI ?_ ?_ | refine zK (QO x.items) ?_ | exact zF0 | refine zD fun hb => ?_ | exact zC | refine zT ?_ | fail))
theorem c_markTy (x : MTy) (hs : x.sm) (k : Int) (h0 : 0 <= k) (hk : k + x.cnt <= 4611686018427387904) : FCon Tryz.prog 19 [.ag x.own, .s (.int .i64 k)] (fun r o => r = .s (.int .i64 (k + x.cnt)) /\ o = [.ag (MTy.mark k x).own, .un]) := by
 simp only [MTy.cnt] at hk
 refine FI PM Tryz.func19 Tryz.ntmps19 [] rfl rfl ?_
 (have hWf := w4 @MTy.own_eq @xh @MTy.cnt_eq @MTy.mark_eq; repeat' (first | refine zS ?_ | refine zI ?_ ?_ | ((with_reducible apply xc); refine xg (wn x.items (hs).1 _ (by omega) (by omega)) ?_; rintro _ _ ⟨rfl, rfl⟩) | ((with_reducible apply xf); refine xe (wn x.items (hs).1 _ (by omega) (by omega)) ?_) | exact zF0 | refine zD fun hb => ?_ | exact zC | refine zT ?_ | fail))
theorem c_heldTy (x : MTy) (hs : x.sm) (k : Int) (h0 : 0 <= k) (hk : k + x.cnt <= 4611686018427387904) : FCon Tryz.prog 20 [.ag (MTy.mark k x).enc, .s (.int .i64 k)] (fun r _ => r = .s (.int .i64 (k + x.cnt))) := by
 simp only [MTy.cnt] at hk
 refine FI PM Tryz.func20 Tryz.ntmps20 [] rfl rfl ?_
 (have hWf := w3 @MTy.enc_eq @MTy.mark_eq @MTy.cnt_eq; repeat' (first | refine zS ?_ | refine zI ?_ ?_ | ((with_reducible apply xc); refine zG (X8 x.items (hs).1 _ (by omega) (by omega)) ?_) | ((with_reducible apply xf); refine xe (X8 x.items (hs).1 _ (by omega) (by omega)) ?_) | exact zF0 | refine zD fun hb => ?_ | exact zC | refine zT ?_ | fail))
end
section
open Go.RowKit
theorem pure_tupL (xs : List D) : Pure (.tup xs) = ∀ d ∈ xs, Pure d := propext ⟨fun h d hd => by
 obtain ⟨j, hj⟩ := List.mem_iff_getElem?.1 hd
 cases h with
 | tup h => exact h j d hj, fun h => .tup fun j d hj => h d (List.mem_of_getElem? hj)⟩
theorem sB {a b : Bool} (h : a = b) : D.s (.bool a) = .s (.bool b) := by rw [h]
theorem FCon.ofStr {f : FuncId} {fn : Func} {c : Code} (hf : Tryz.prog.funcs[f]? = some fn) (hname : (fn.name == "runtime.NumGoroutine") = false) (hb : fn.body = some c) (s : ByteArray) (b : Bool) (h : ∀ w, Calls Tryz.prog f #[.string s] w fun e w' => e = .returned (.bool b) /\ Below w.heap.size w w') : FCon Tryz.prog f [.s (.string s)] (fun r _ => r = .s (.bool b)) := by
 refine FCon.ofBelow (Rv := fun v => v = .bool b) hf hname hb ?_ rfl ?_
 ·rintro _ rfl; exact ⟨rfl, rfl⟩
 ·intro w S up vs hl hv
  obtain ⟨v, rfl, h'⟩ := one_arg (P := fun _ d u => RB S up w d u) hl hv
  have := Rep.s_inv (show Rep S up w none (.s (.string s)) v from h')
  subst this
  exact (h w).mono fun e w' h => ⟨_, h.1, rfl, h.2⟩
theorem zR (s : ByteArray) (hs : s.size <= maxLen) : FCon Tryz.prog 139 [.s (.string s)] (fun r _ => r = .s (.bool (xU s))) := FCon.ofStr Tryz.func139 rfl rfl s _ fun w => Q0 w s hs
theorem xA (s : ByteArray) (hs : s.size <= maxLen) : FCon Tryz.prog 125 [.s (.string s)] (fun r _ => r = .s (.bool (xU s))) := FCon.ofStr Tryz.func125 rfl rfl s _ fun w => Q5 w s hs
theorem x8 (n lo hi : Int) : FCon Tryz.prog 94 [.s (.int .i64 n), .s (.int .i64 lo), .s (.int .i64 hi)] (fun r _ => r = .s (.bool (decide (lo <= n) && decide (n <= hi)))) := by
 refine FI PM Tryz.func94 Tryz.ntmps94 [] rfl rfl ?_
 (have hWf := f0; repeat' (first | refine zS ?_ | refine zI ?_ ?_ | exact zF0 | refine zD fun hb => ?_ | exact zC | refine zT ?_ | fail))
 all_goals exact sB (by simp_all)
theorem zF (s : ByteArray) (hs : s.size <= maxLen) : FCon Tryz.prog 189 [.s (.string s)] (fun r _ => r = .s (.bool (conM s.data.toList))) := FCon.ofStr Tryz.func189 rfl rfl s _ fun w => (xau w s hs).mono fun e w' ⟨q1, q2⟩ => ⟨q1, q2 ▸ Below.refl _ _⟩
theorem ux (s : ByteArray) (hs : s.size <= maxLen) : FCon Tryz.prog 175 [.s (.string s)] (fun r _ => r = .s (.bool (conM s.data.toList))) := FCon.ofStr Tryz.func175 rfl rfl s _ fun w => (xaM w s hs).mono fun e w' ⟨q1, q2⟩ => ⟨q1, q2 ▸ Below.refl _ _⟩
theorem lit0 : (⟨#[]⟩ : ByteArray).toList = [] := by kernel_rfl
end
section
def fidx {α : Type} (p : α -> Bool) : List α -> Int
 | [] => -1
 | x :: l => if p x = true then 0 else if fidx p l < 0 then -1 else fidx p l + 1
theorem fidx_ge {α : Type} (p : α -> Bool) : ∀ (l : List α), -1 <= fidx p l
 | [] => by simp [fidx]
 | x :: l => by
  have := fidx_ge p l
  rw [fidx]; split <;> (try split) <;> omega
theorem vn {α : Type} (p : α -> Bool) : ∀ (l : List α) (k : Nat) (h : k < l.length), (∀ x ∈ l.take k, p x = false) -> p l[k] = true -> fidx p l = k
 | x :: l, 0, _, _, hp => by
  have hp : p x = true := hp
  rw [fidx, if_pos hp]; rfl
 | x :: l, k + 1, h, hn, hp => by
  rw [fidx, if_neg (by rw [hn x (by simp)]; simp), vn p l k (by simpa using h) (fun y hy => hn y (by simp [hy])) (by simpa using hp)]
  rw [if_neg (by omega)]; omega
theorem vo {α : Type} (p : α -> Bool) : ∀ (l : List α), (∀ x ∈ l, p x = false) -> fidx p l = -1
 | [], _ => rfl
 | x :: l, h => by rw [fidx, if_neg (by rw [h x (by simp)]; simp), vo p l (fun y hy => h y (by simp [hy]))]; rfl
theorem vx {α : Type} (p : α -> Bool) : ∀ (l : List α), decide (fidx p l ≥ 0) = l.any p
 | [] => rfl
 | x :: l => by
  rw [fidx, List.any_cons, <- vx p l]
  by_cases h : p x = true
  ·rw [if_pos h, h]; rfl
  ·rw [if_neg h]
   have : p x = false := by simpa using h
   rw [this, Bool.false_or]
   have := fidx_ge p l
   by_cases q : fidx p l < 0
   ·rw [if_pos q, decide_eq_false (by omega), decide_eq_false (by omega)]
   ·rw [if_neg q, decide_eq_true (by omega), decide_eq_true (by omega)]
theorem Ze {α : Type} {p : α -> Bool} {xs : List α} {k : Nat} (h : k < xs.length) (hno : ∀ x ∈ xs.take k, p x = false) (hk : p xs[k] = false) : ∀ x ∈ xs.take (k + 1), p x = false := by
 intro x hx
 rw [List.take_succ_eq_append_getElem h] at hx
 rcases List.mem_append.1 hx with hx | hx
 ·exact hno x hx
 ·simp at hx; rw [hx]; exact hk
end
section
open Go.RowKit
def stE (p : ByteArray) : List D := [.s (.string p)]
theorem stE_eq (p : ByteArray) : stE p = [.s (.string p)] := rfl
theorem QM (xs : List ByteArray) (v : ByteArray) : FCon Tryz.prog 142 [.sl 1 (xs.map stE), .s (.string v)] (fun r _ => r = .s (.int .i64 (yy v xs))) := by
 refine FI PM Tryz.func142 Tryz.ntmps142 [] rfl rfl ?_
 refine x5 0 rfl trivial fun hlen => ?_
 simp only [List.length_map] at hlen
 (have hWf := f0; repeat' (first | refine zS ?_ | refine zI ?_ ?_ | exact zF0 | refine zD fun hb => ?_ | exact zC | refine zT ?_ | fail))
 refine xd (fun n σ => ∃ k : Nat, k <= xs.length /\ n = xs.length - k /\ σ.t 0 = .sl 1 (xs.map stE) /\ σ.t 1 = .s (.string v) /\ σ.t 7 = .s (.int .i64 xs.length) /\ σ.t 8 = .s (.int .i64 k) /\ ∀ j, j < k -> xs[j]? ≠ some v) xs.length ⟨0, by omega, by omega, ?_⟩ ?_
 ·simp only [go_sem, simprocAttr, Int.natCast_zero]
  all_goals simp
 ·rintro n σ ⟨k, hk, rfl, h0, h1, h7, h8, hno⟩ K' hK
  by_cases hlt : k < xs.length
  ·have hx := xb stE xs k hlt
   have he := stE_eq xs[k]
   by_cases hp : v = xs[k]
   ·have hp' := vH hp
    have hv := ZN hlt hno (by rw [List.getElem?_eq_getElem hlt, <- hp])
    (have hWf := w7 @h0 @h1 @h7 @h8 @hx @he @hp'; repeat' (first | refine zS ?_ | refine zI ?_ ?_ | exact zF0 | refine zD fun hb => ?_ | exact zC | refine zT ?_ | fail))
    exact xq hv.symm
   ·have hp' := uN hp
    (have hWf := w7 @h0 @h1 @h7 @h8 @hx @he @hp'; repeat' (first | refine zS ?_ | refine zI ?_ ?_ | exact zF0 | refine zD fun hb => ?_ | exact zC | refine zT ?_ | fail))
    refine hK (xs.length - (k + 1)) _ (by omega) ⟨k + 1, by omega, rfl, ?_⟩
    simp only [go_sem, simprocAttr, h0, h1, h7, Int.natCast_succ]
    intro j hj
    rcases Nat.lt_or_eq_of_le (Nat.le_of_lt_succ hj) with q | q
    ·exact hno j q
    ·subst q; rw [List.getElem?_eq_getElem hlt]; exact fun e => hp (Option.some.inj e).symm
  ·obtain rfl : k = xs.length := by omega
   (have hWf := w4 @h0 @h1 @h7 @h8; repeat' (first | refine zS ?_ | refine zI ?_ ?_ | exact zF0 | refine zD fun hb => ?_ | exact zC | refine zT ?_ | fail))
   exact xq (XK hno).symm
theorem yu (xs : List ByteArray) (v : ByteArray) : FCon Tryz.prog 89 [.sl 1 (xs.map stE), .s (.string v)] (fun r _ => r = .s (.bool (inL v xs))) := by
 refine FI PM Tryz.func89 Tryz.ntmps89 [] rfl rfl ?_
 (have hWf := f0; repeat' (first | refine zS ?_ | refine zI ?_ ?_ | refine zK (QM xs v) ?_ | exact zF0 | refine zD fun hb => ?_ | exact zC | refine zT ?_ | fail))
 exact sB (UP v xs)
theorem yQ (xs : List ByteArray) : xN (xs.map stE) = xs.map stE := xR (fun _ => rfl) xs
theorem toL_inj {a b : ByteArray} (h : a.toList = b.toList) : a = b := by
 rw [ByteArray.toList_eq, ByteArray.toList_eq] at h
 cases a; cases b
 simpa using h
theorem yG {α : Type} {p : α -> Bool} {l : List α} {k : Nat} (h : k < l.length) (hp : p l[k] = false) : l.all p = false := by
 rw [List.all_eq_false]
 exact ⟨l[k], List.getElem_mem h, by rw [hp]; simp⟩
theorem xQ {α : Type} {p : α -> Bool} {l : List α} (h : ∀ x ∈ l.take l.length, p x = true) : l.all p = true := List.all_eq_true.2 (by simpa using h)
theorem xG {α : Type} {p : α -> Prop} {l : List α} {k : Nat} (h : k < l.length) (h1 : ∀ x ∈ l.take k, p x) (h2 : p l[k]) : ∀ x ∈ l.take (k + 1), p x := by
 intro x hx
 rw [List.take_succ_eq_append_getElem h] at hx
 rcases List.mem_append.1 hx with hx | hx
 ·exact h1 x hx
 ·simp at hx; rw [hx]; exact h2
def primL : List (List UInt8) := [[43], [45], [42], [47], [37], [94], [61], [60, 62], [60], [60, 61]]
def XX (s : ByteArray) : Bool := primL.any fun l => s.toList == l
def yq : List ByteArray := primL.map fun l => ⟨l.toArray⟩
theorem primM_in (s : ByteArray) : inL s yq = XX s := by
 rw [Bool.eq_iff_iff, wE]
 unfold XX yq
 simp only [List.mem_map, List.any_eq_true, beq_iff_eq]
 constructor
 ·rintro ⟨l, hl, rfl⟩
  exact ⟨l, hl, by rw [ByteArray.toList_eq]⟩
 ·rintro ⟨l, hl, e⟩
  exact ⟨l, hl, toL_inj (by rw [ByteArray.toList_eq, e])⟩
theorem wA : FCon Tryz.prog 225 [] (fun r _ => r = .osl 9 1 (yq.map stE)) := by
 refine FI PM Tryz.func225 Tryz.ntmps225 [] rfl rfl ?_
 (have hWf := f0; repeat' (first | refine zS ?_ | refine zI ?_ ?_ | exact zF0 | refine zD fun hb => ?_ | exact zC | refine zT ?_ | fail))
 rfl
theorem vl (s : ByteArray) : FCon Tryz.prog 89 [.sl 1 (yq.map stE), .s (.string s)] (fun r _ => r = .s (.bool (XX s))) := by
 rw [<- primM_in]; exact yu yq s
theorem wz (s : ByteArray) : FCon Tryz.prog 177 [.s (.string s)] (fun r _ => r = .s (.bool (XX s))) := by
 have hpm : XX s = yq.any fun x => s.toList == x.toList := by
  unfold XX yq
  rw [List.any_map]
  congr 1
  funext l
  show _ = (s.toList == (⟨l.toArray⟩ : ByteArray).toList)
  rw [ByteArray.toList_eq (bs := ⟨l.toArray⟩)]
 rw [hpm]
 have hpl : yq.length = 10 := rfl
 refine FI PM Tryz.func177 Tryz.ntmps177 [] rfl rfl ?_
 (have hWf := f0; repeat' (first | refine zS ?_ | refine zI ?_ ?_ | exact zF0 | refine zD fun hb => ?_ | exact zC | refine zT ?_ | fail))
 refine xd (fun n σ => ∃ k : Nat, k <= yq.length /\ n = yq.length - k /\ σ.t 0 = .s (.string s) /\ σ.t 5 = .bs 5 1 yq.length /\ σ.b 5 = some (.arr 9 1 (yq.map stE)) /\ σ.t 6 = .s (.int .i64 yq.length) /\ σ.t 7 = .s (.int .i64 k) /\ ∀ x ∈ yq.take k, (s.toList == x.toList) = false) yq.length ⟨0, by omega, by omega, ?_⟩ ?_
 ·simp only [go_sem, simprocAttr]
  exact ⟨by rw [hpl], rfl, by rw [hpl]; rfl⟩
 ·rintro n σ ⟨k, hk, rfl, h0, h5, hb5, h6, h7, hno⟩ K' hK
  by_cases hlt : k < yq.length
  ·have hx := xb stE yq k hlt
   have he := stE_eq yq[k]
   cases hq : (s.toList == yq[k].toList) with
   | true =>
    (have hWf := w8 @h0 @h5 @hb5 @h6 @h7 @hx @he @hq; repeat' (first | refine zS ?_ | refine zI ?_ ?_ | exact zF0 | refine zD fun hb => ?_ | exact zC | refine zT ?_ | fail))
    exact sB (List.any_eq_true.2 ⟨yq[k], List.getElem_mem hlt, hq⟩).symm
   | false =>
    (have hWf := w8 @h0 @h5 @hb5 @h6 @h7 @hx @he @hq; repeat' (first | refine zS ?_ | refine zI ?_ ?_ | exact zF0 | refine zD fun hb => ?_ | exact zC | refine zT ?_ | fail))
    refine hK (yq.length - (k + 1)) _ (by omega) ⟨k + 1, by omega, rfl, ?_⟩
    simp only [go_sem, simprocAttr, h0, h5, hb5, h6, Int.natCast_succ]
    exact xG hlt hno hq
  ·obtain rfl : k = yq.length := by omega
   (have hWf := w5 @h0 @h5 @hb5 @h6 @h7; repeat' (first | refine zS ?_ | refine zI ?_ ?_ | exact zF0 | refine zD fun hb => ?_ | exact zC | refine zT ?_ | fail))
   exact sB (List.any_eq_false.2 (fun x hx => by have := hno x (by simpa using hx); rw [this]; simp)).symm
theorem lit3 : (⟨#[114, 101, 102]⟩ : ByteArray).toList = [114, 101, 102] := by kernel_rfl
theorem lit2 : (⟨#[45, 62]⟩ : ByteArray).toList = [45, 62] := by kernel_rfl
theorem lit1 : (⟨#[42]⟩ : ByteArray).toList = [42] := by kernel_rfl
theorem c_tyName (x : TyI) (hx : x.ok) (h0 : 0 <= x.ar) (h1 : x.ar <= 2) (h2 : x.v = 0) (h3 : x.name.toList.isEmpty = false) : FCon Tryz.prog 259 [.ag x.enc] (fun r _ => r = .s (.bool (xF x))) := by
 refine FI PM Tryz.func259 Tryz.ntmps259 [] rfl rfl ?_
 (have hWf := w4 @TyI.enc_eq @lit1 @lit2 @lit3; repeat' (first | refine zS ?_ | refine zI ?_ ?_ | ((with_reducible apply xc); refine zG (zR _ hx.2.1) ?_) | ((with_reducible apply xf); refine xe (zR _ hx.2.1) ?_) | exact zF0 | refine zD fun hb => ?_ | exact zC | refine zT ?_ | fail))
 all_goals exact sB (by unfold xF; simp_all)
theorem Uu (x : TyI) (hx : x.ok) : FCon Tryz.prog 221 [.ag x.enc] (fun r _ => r = .s (.bool (xF x))) := by
 refine FI PM Tryz.func221 Tryz.ntmps221 [] rfl rfl ?_
 (have hWf := w5 @TyI.enc_eq @lit0 @lit1 @lit2 @lit3; repeat' (first | refine zS ?_ | refine zI ?_ ?_ | ((with_reducible apply xc); refine zG (xA _ hx.2.1) ?_) | ((with_reducible apply xf); refine xe (xA _ hx.2.1) ?_) | exact zF0 | refine zD fun hb => ?_ | exact zC | refine zT ?_ | fail))
 all_goals exact sB (by unfold xF; simp_all; try omega)
theorem decLe {a b : Nat} : decide ((a : Int) <= (b : Int)) = decide (a <= b) := by rw [Bool.eq_iff_iff]; simp
theorem decLe200 {a : Nat} : decide ((a : Int) <= 200) = decide (a <= 200) := decLe (b := 200)
theorem Vp {l : List UInt8} (h : l.isEmpty = false) : (l == []) = false := by cases l <;> simp_all
theorem c_tyOk (xs : List TyI) (ho : ∀ x ∈ xs, x.ok) (hl : xs.length <= 1048576) : FCon Tryz.prog 244 [.sl 3 (xs.map TyI.enc)] (fun r _ => r = .s (.bool (yJ xs))) := by
 refine FI PM Tryz.func244 Tryz.ntmps244 [] rfl rfl ?_
 (have hWf := f0; repeat' (first | refine zS ?_ | refine zI ?_ ?_ | exact zF0 | refine zD fun hb => ?_ | exact zC | refine zT ?_ | fail))
 refine xd (fun n σ => ∃ k m : Nat, k <= xs.length /\ n = xs.length - k /\ σ.t 3 = .s (.int .i64 m) /\ σ.t 6 = .sl 3 (xs.map TyI.enc) /\ σ.t 7 = .s (.int .i64 xs.length) /\ σ.t 8 = .s (.int .i64 k) /\ m <= 1 + 2 * k /\ wh xs k m = yJ xs) xs.length ⟨0, 1, by omega, by omega, ?_⟩ ?_
 ·simp only [go_sem, simprocAttr, Int.natCast_zero, Int.natCast_one, Q2]
 ·rintro n σ ⟨k, m, hk, rfl, h3, h6, h7, h8, hm, hr⟩ K' hK
  by_cases hlt : k < xs.length
  ·have hx := xb TyI.enc xs k hlt
   have he := TyI.enc_eq xs[k]
   have hox := ho _ (List.getElem_mem hlt)
   rcases Nat.eq_zero_or_pos m with rfl | hm0
   ·(have hWf := w7 @h3 @h6 @h7 @h8 @hx @he @Int.natCast_zero; repeat' (first | refine zS ?_ | refine zI ?_ ?_ | exact zF0 | refine zD fun hb => ?_ | exact zC | refine zT ?_ | fail))
    exact sB (by rw [<- hr, xaD xs k hlt])
   ·obtain ⟨m, rfl⟩ : ∃ j, m = j + 1 := ⟨m - 1, by omega⟩
    have hm1 : (((m + 1 : Nat) : Int) == 0) = false := by simp; omega
    have hbad : xF xs[k] = false -> false = yJ xs := fun h => by rw [<- hr, restM_bad xs k _ hlt h]
    have hgood : xF xs[k] = true -> wh xs (k + 1) (m + xs[k].ar.toNat) = yJ xs := fun h => by rw [<- hr, xaC xs k m hlt h]
    clear hr
    by_cases hn : xs[k].name.toList.isEmpty
    ·have hI : xF xs[k] = (decide (0 <= xs[k].v) && decide (xs[k].v <= 9999) && (xs[k].ar == 0)) := by unfold xF; rw [if_pos hn]
     have hn' : xs[k].name.toList = [] := by simpa using hn
     (have hWf := w9 @h3 @h6 @h7 @h8 @hx @he @hm1 @lit0 @hn'; repeat' (first | refine zS ?_ | refine zI ?_ ?_ | refine zK (x8 xs[k].v 0 9999) ?_ | exact zF0 | refine zD fun hb => ?_ | exact zC | refine zT ?_ | fail))
     ·exact sB (hbad (by rw [hI]; simp at hb ⊢; omega))
     ·have hit : xF xs[k] = true := by rw [hI]; simp at hb ⊢; omega
      have ha : xs[k].ar = 0 := by rw [hI] at hit; simp at hit; omega
      refine hK (xs.length - (k + 1)) _ (by omega) ⟨k + 1, m, by omega, rfl, ?_⟩
      simp only [go_sem, simprocAttr, h3, h6, h7, h8, Int.natCast_succ]
      exact ⟨xq (by omega), by omega, by simpa [ha] using hgood hit⟩
    ·have hn' : xs[k].name.toList.isEmpty = false := by simpa using hn
     have hn2 := Vp hn'
     by_cases hv : xs[k].v = 0
     ·have hv' : (xs[k].v != 0) = false := by simp [hv]
      by_cases ha : 0 <= xs[k].ar /\ xs[k].ar <= 2
      ·have ha1 : decide (0 <= xs[k].ar) = true := decide_eq_true ha.1
       have ha2 : decide (xs[k].ar <= 2) = true := decide_eq_true ha.2
       (have hWf := w10 @h3 @h6 @h7 @h8 @hx @he @hm1 @lit0 @hn2 (ai @hv' <| ai @ha1 <| @ha2); repeat' (first | refine zS ?_ | refine zI ?_ ?_ | refine zK (x8 xs[k].ar 0 2) ?_ | refine zK (c_tyName xs[k] hox ha.1 ha.2 hv hn') ?_ | exact zF0 | refine zD fun hb => ?_ | exact zC | refine zT ?_ | fail))
       ·exact sB (hbad (by simpa using hb))
       ·refine hK (xs.length - (k + 1)) _ (by omega) ⟨k + 1, m + xs[k].ar.toNat, by omega, rfl, ?_⟩
        simp only [go_sem, simprocAttr, h3, h6, h7, h8, Int.natCast_succ]
        exact ⟨xq (by push_cast; omega), by omega, hgood (by simpa using hb)⟩
      ·have ha' : (decide (0 <= xs[k].ar) && decide (xs[k].ar <= 2)) = false := by simp; omega
       (have hWf := w10 @h3 @h6 @h7 @h8 @hx @he @hm1 @lit0 @hn2 (ai @hv' <| @ha'); repeat' (first | refine zS ?_ | refine zI ?_ ?_ | refine zK (x8 xs[k].ar 0 2) ?_ | exact zF0 | refine zD fun hb => ?_ | exact zC | refine zT ?_ | fail))
       all_goals exact sB (hbad (by cases hI : xF xs[k] with | false => rfl | true => exact absurd (XL hI) ha))
     ·have hv' : (xs[k].v != 0) = true := by simp [hv]
      (have hWf := w10 @h3 @h6 @h7 @h8 @hx @he @hm1 @lit0 @hn2 @hv'; repeat' (first | refine zS ?_ | refine zI ?_ ?_ | refine zK (x8 xs[k].ar 0 2) ?_ | exact zF0 | refine zD fun hb => ?_ | exact zC | refine zT ?_ | fail))
      all_goals exact sB (hbad (by unfold xF; simp [hn', hv]))
  ·obtain rfl : k = xs.length := by omega
   (have hWf := w4 @h3 @h6 @h7 @h8; repeat' (first | refine zS ?_ | refine zI ?_ ?_ | exact zF0 | refine zD fun hb => ?_ | exact zC | refine zT ?_ | fail))
   refine sB ?_
   rw [<- hr, restM_end xs _ m rfl, Bool.eq_iff_iff, beq_iff_eq, decide_eq_true_eq]
   omega
theorem yv (xs : List TyI) (ho : ∀ x ∈ xs, x.ok) (hl : xs.length <= 1048576) : FCon Tryz.prog 226 [.ag [.sl 3 (xs.map TyI.enc)]] (fun r _ => r = .s (.bool (zq xs))) := by
 refine FI PM Tryz.func226 Tryz.ntmps226 [] rfl rfl ?_
 (have hWf := f0; repeat' (first | refine zS ?_ | refine zI ?_ ?_ | refine zK (c_tyOk xs ho hl) ?_ | exact zF0 | refine zD fun hb => ?_ | exact zC | refine zT ?_ | fail))
 all_goals exact sB (by unfold zq; rw [decLe200])
theorem Qc {xs : List TyI} (h : xs.all xF = true) : ∀ x ∈ xs, 0 <= x.ar /\ x.ar <= 2 := fun x hx => XL (List.all_eq_true.1 h x hx)
theorem ug : ∀ (n : Nat) (xs : List TyI) (hit : ∀ x ∈ xs, 0 <= x.ar /\ x.ar <= 2) (hl : xs.length <= 1048576) (k : Nat), xs.length - k <= n -> FCon Tryz.prog 133 [.ag [.sl 3 (xs.map TyI.enc)], .s (.int .i64 k)] (fun r _ => r = .s (.int .i64 (endM xs k)))
 | n, xs, hit, hl, k, hn => by
  by_cases hk : k < xs.length
  ·have hx := xb TyI.enc xs k hk
   have he := TyI.enc_eq xs[k]
   have hxi := hit _ (List.getElem_mem hk)
   have hb0 : decide ((k : Int) < 0) = false := by simp
   have hb1 : decide ((k : Int) ≥ xs.length) = false := by simp; omega
   obtain ⟨n, rfl⟩ : ∃ j, n = j + 1 := ⟨n - 1, by omega⟩
   have ih := ug n xs hit hl
   refine FI PM Tryz.func133 Tryz.ntmps133 [] rfl rfl ?_
   (have hWf := w2 @hb0 @hb1; repeat' (first | refine zS ?_ | refine zI ?_ ?_ | exact zF0 | refine zD fun hb => ?_ | exact zC | refine zT ?_ | fail))
   refine xd (fun n' σ => ∃ i : Nat, (i : Int) <= xs[k].ar /\ n' = xs[k].ar.toNat - i /\ σ.t 1 = .s (.int .i64 k) /\ σ.t 2 = .bx 2 0 /\ σ.b 2 = some (.box [.sl 3 (xs.map TyI.enc)]) /\ σ.t 5 = .s (.int .i64 (xT xs (k + 1) i)) /\ σ.t 6 = .s (.int .i64 i)) xs[k].ar.toNat ⟨0, by omega, by omega, ?_⟩ ?_
   ·simp only [go_sem, simprocAttr, Int.natCast_zero, ve, Int.natCast_succ]
   ·rintro n' σ ⟨i, hi, rfl, h1, h2, h9, h5, h6⟩ K' hK
    have hbd := ZL xs (k + 1) i (by omega)
    by_cases hlt : (i : Int) < xs[k].ar
    ·rcases hbd with hneg | ⟨m, hm, hm1, hm2⟩
     ·rw [hneg] at h5
      (have hWf := w7 @h1 @h2 @h9 @h5 @h6 @hx @he; repeat' (first | refine zS ?_ | refine zI ?_ ?_ | exact zF0 | refine zD fun hb => ?_ | exact zC | refine zT ?_ | fail))
      exact xq (by rw [vV xs k hk, UE xs (k + 1) i (by omega) _ (by omega)])
     ·rw [hm] at h5
      have hsc := Wu xs (k + 1) i m hm
      (have hWf := w7 @h1 @h2 @h9 @h5 @h6 @hx @he; repeat' (first | refine zS ?_ | refine zI ?_ ?_ | ((with_reducible apply xc); refine zG (ih m (by omega)) ?_) | refine zU (ih m (by omega)) ?_ | exact zF0 | refine zD fun hb => ?_ | exact zC | refine zT ?_ | fail))
      refine hK (xs[k].ar.toNat - (i + 1)) _ (by omega) ⟨i + 1, by omega, rfl, ?_⟩
      simp only [go_sem, simprocAttr, h1, h2, h9, h5, h6, Int.natCast_succ, hsc]
    ·(have hWf := w7 @h1 @h2 @h9 @h5 @h6 @hx @he; repeat' (first | refine zS ?_ | refine zI ?_ ?_ | exact zF0 | refine zD fun hb => ?_ | exact zC | refine zT ?_ | fail))
     exact xq (by rw [vV xs k hk]; congr 1; omega)
  ·refine FI PM Tryz.func133 Tryz.ntmps133 [] rfl rfl ?_
   (have hWf := f0; repeat' (first | refine zS ?_ | refine zI ?_ ?_ | exact zF0 | refine zD fun hb => ?_ | exact zC | refine zT ?_ | fail))
   exact xq (ZJ xs k (by omega)).symm
theorem all_false {xs : List TyI} {k : Nat} (h : k < xs.length) (hb : xF xs[k] = false) : zq xs = false := by
 unfold zq yJ
 have : xs.all xF = false := List.all_eq_false.2 ⟨xs[k], List.getElem_mem h, by simp [hb]⟩
 rw [this]; simp
theorem Vo {xs : List TyI} {k : Nat} (h : k < xs.length) (ha : (xs.take k).all xF = true) (hb : xF xs[k] = true) : (xs.take (k + 1)).all xF = true := by
 rw [List.take_succ_eq_append_getElem h, List.all_append, ha, List.all_cons, hb]; rfl
theorem Wo (xs : List TyI) (ho : ∀ x ∈ xs, x.ok) (hl : xs.length <= 1048576) : FCon Tryz.prog 176 [.ag [.sl 3 (xs.map TyI.enc)]] (fun r _ => r = .s (.bool (zq xs))) := by
 by_cases h2 : xs.length <= 200
 ·have h2' : zq xs = yJ xs := by unfold zq; rw [decide_eq_true h2]; rfl
  refine FI PM Tryz.func176 Tryz.ntmps176 [(9, 5, [], [], (lin [] [0, 1, 2, 3, 4]))] rfl rfl ?_
  (have hWf := f0; repeat' (first | refine zS ?_ | refine zI ?_ ?_ | exact zF0 | refine zD fun hb => ?_ | exact zC | refine zT ?_ | fail))
  refine xd (fun n σ => ∃ k : Nat, k <= xs.length /\ n = xs.length - k /\ σ.t 1 = .bx 1 0 /\ σ.b 1 = some (.box [.sl 3 (xs.map TyI.enc)]) /\ σ.t 10 = .sl 3 (xs.map TyI.enc) /\ σ.t 11 = .s (.int .i64 xs.length) /\ σ.t 12 = .s (.int .i64 k) /\ (xs.take k).all xF = true) xs.length ⟨0, by omega, by omega, ?_⟩ ?_
  ·simp only [go_sem, simprocAttr, Int.natCast_zero, List.take_zero, List.all_nil]
  ·rintro n σ ⟨k, hk, rfl, h1, h9, h10, h11, h12, ha⟩ K' hK
   by_cases hlt : k < xs.length
   ·have hx := xb TyI.enc xs k hlt
    have he := TyI.enc_eq xs[k]
    (have hWf := w7 @h1 @h9 @h10 @h11 @h12 @hx @he; repeat' (first | refine zS ?_ | refine zI ?_ ?_ | ((with_reducible apply xc); refine zG (Uu xs[k] (ho _ (List.getElem_mem hlt))) ?_) | ((with_reducible apply xf); refine xe (Uu xs[k] (ho _ (List.getElem_mem hlt))) ?_) | exact zF0 | refine zD fun hb => ?_ | exact zC | refine zT ?_ | fail))
    ·exact sB (all_false hlt hb).symm
    ·refine hK (xs.length - (k + 1)) _ (by omega) ⟨k + 1, by omega, rfl, ?_⟩
     simp only [go_sem, simprocAttr, h1, h9, h10, h11, h12, Int.natCast_succ]
     exact Vo hlt ha hb
   ·obtain rfl : k = xs.length := by omega
    rw [List.take_length] at ha
    (have hWf := w5 @h1 @h9 @h10 @h11 @h12; repeat' (first | refine zS ?_ | refine zI ?_ ?_ | ((with_reducible apply xc); refine zG (ug xs.length xs (Qc ha) hl 0 (by omega)) ?_) | refine zU (ug xs.length xs (Qc ha) hl 0 (by omega)) ?_ | exact zF0 | refine zD fun hb => ?_ | exact zC | refine zT ?_ | fail))
    refine sB ?_
    rw [h2', yJ, ha, Bool.true_and, Bool.eq_iff_iff]
    simp
 ·refine FI PM Tryz.func176 Tryz.ntmps176 [(9, 5, [], [], (lin [] [0, 1, 2, 3, 4]))] rfl rfl ?_
  (have hWf := f0; repeat' (first | refine zS ?_ | refine zI ?_ ?_ | exact zF0 | refine zD fun hb => ?_ | exact zC | refine zT ?_ | fail))
  exact sB (by unfold zq; rw [decide_eq_false h2]; rfl)
end
section
def varB (x : TyI) : Bool := x.name.toList.isEmpty
def idxN : List Int -> Int -> Nat
 | [], _ => 0
 | y :: l, x => if y = x then 0 else idxN l x + 1
theorem idxN_le : ∀ (l : List Int) (x : Int), idxN l x <= l.length
 | [], _ => Nat.le_refl _
 | y :: l, x => by
  rw [idxN]
  split
  ·simp
  ·have := idxN_le l x
   simp; omega
theorem V8 : ∀ (l t : List Int) (x : Int), x ∈ l -> idxN (l ++ t) x = idxN l x
 | [], t, x, h => by cases h
 | y :: l, t, x, h => by
  rw [List.cons_append, idxN, idxN]
  split
  ·rfl
  ·rename_i hne
   rw [V8 l t x (by rcases List.mem_cons.1 h with rfl | h; exact absurd rfl hne; exact h)]
theorem UO : ∀ (l t : List Int) (x : Int), x ∉ l -> idxN (l ++ x :: t) x = l.length
 | [], t, x, h => by simp [idxN]
 | y :: l, t, x, h => by
  rw [List.cons_append, idxN, if_neg (fun e => h (by rw [e]; simp)), UO l t x (fun q => h (by simp [q]))]; rfl
theorem idxN_at : ∀ (l : List Int) (x : Int) (k : Nat) (h : k < l.length), l[k] = x -> (∀ j (hj : j < k), l[j]'(by omega) ≠ x) -> idxN l x = k
 | [], x, k, h, _, _ => by simp at h
 | y :: l, x, 0, _, e, _ => by rw [idxN, if_pos (by simpa using e)]
 | y :: l, x, k + 1, h, e, hn => by
  rw [idxN, if_neg (show ¬ y = x from hn 0 (by omega)), idxN_at l x k (by simpa using h) (by simpa using e) (fun j hj => by have := hn (j + 1) (by omega); simpa using this)]
def xM (seen : List Int) (x : TyI) : List Int := if varB x = true /\ x.v ∉ seen then seen ++ [x.v] else seen
def xm (xs : List TyI) : List Int := xs.foldl xM []
theorem ud (xs : List TyI) (k : Nat) (h : k < xs.length) : xm (xs.take (k + 1)) = xM (xm (xs.take k)) xs[k] := by
 unfold xm
 rw [List.take_succ_eq_append_getElem h, List.foldl_append]; rfl
theorem vJ {seen : List Int} {x : TyI} (h : varB x = true) (hn : x.v ∉ seen) : xM seen x = seen ++ [x.v] := by unfold xM; rw [if_pos ⟨h, hn⟩]
theorem ue {seen : List Int} {x : TyI} (h : varB x = true -> x.v ∈ seen) : xM seen x = seen := by unfold xM; rw [if_neg (fun q => q.2 (h q.1))]
theorem QJ (seen : List Int) (x : TyI) : ∃ t, xM seen x = seen ++ t := by
 unfold xM
 split
 ·exact ⟨_, rfl⟩
 ·exact ⟨[], by simp⟩
theorem V5 : ∀ (l : List TyI) (s : List Int), ∃ t, l.foldl xM s = s ++ t
 | [], s => ⟨[], by simp⟩
 | x :: l, s => by
  obtain ⟨t, ht⟩ := QJ s x
  obtain ⟨u, hu⟩ := V5 l (xM s x)
  exact ⟨t ++ u, by rw [List.foldl_cons, hu, ht, List.append_assoc]⟩
theorem varsM_pre (xs : List TyI) (k : Nat) : ∃ t, xm xs = xm (xs.take k) ++ t := by
 obtain ⟨t, ht⟩ := V5 (xs.drop k) (xm (xs.take k))
 refine ⟨t, ?_⟩
 rw [<- ht]
 unfold xm
 rw [<- List.foldl_append, List.take_append_drop]
theorem Xc (xs : List TyI) : ∀ k, k <= xs.length -> (xm (xs.take k)).length <= k
 | 0, _ => by simp [xm]
 | k + 1, h => by
  rw [ud xs k (by omega)]
  have := Xc xs k (by omega)
  unfold xM
  split
  ·rw [List.length_append]; simpa using this
  ·omega
theorem varsM_len' (xs : List TyI) : (xm xs).length <= xs.length := by have := Xc xs xs.length (Nat.le_refl _); rwa [List.take_length] at this
theorem YO (xs : List TyI) : ∀ k, k <= xs.length -> ∀ v, v ∈ xm (xs.take k) ↔ ∃ j, ∃ h : j < xs.length, j < k /\ varB xs[j] = true /\ xs[j].v = v
 | 0, _, v => by simp [xm]
 | k + 1, h, v => by
  rw [ud xs k (by omega)]
  have ih := YO xs k (by omega) v
  have key : v ∈ xM (xm (xs.take k)) xs[k] ↔ v ∈ xm (xs.take k) \/ (varB xs[k] = true /\ xs[k].v = v) := by
   unfold xM
   by_cases hb : varB xs[k] = true
   ·by_cases hm : xs[k].v ∈ xm (xs.take k)
    ·rw [if_neg (fun q => q.2 hm)]
     constructor
     ·exact .inl
     ·rintro (q | ⟨_, rfl⟩)
      ·exact q
      ·exact hm
    ·rw [if_pos ⟨hb, hm⟩, List.mem_append, List.mem_singleton]
     constructor
     ·rintro (q | rfl)
      ·exact .inl q
      ·exact .inr ⟨hb, rfl⟩
     ·rintro (q | ⟨_, rfl⟩)
      ·exact .inl q
      ·exact .inr rfl
   ·rw [if_neg (fun q => hb q.1)]
    constructor
    ·exact .inl
    ·rintro (q | q)
     ·exact q
     ·exact absurd q.1 hb
  rw [key, ih]
  constructor
  ·rintro (⟨j, h1, h2, h3, h4⟩ | ⟨h3, h4⟩)
   ·exact ⟨j, h1, by omega, h3, h4⟩
   ·exact ⟨k, by omega, by omega, h3, h4⟩
  ·rintro ⟨j, h1, h2, h3, h4⟩
   rcases Nat.lt_or_ge j k with q | q
   ·exact .inl ⟨j, h1, q, h3, h4⟩
   ·obtain rfl : j = k := by omega
    exact .inr ⟨h3, h4⟩
theorem varsM_mem' (xs : List TyI) (v : Int) : v ∈ xm xs ↔ ∃ x ∈ xs, varB x = true /\ x.v = v := by
 have := YO xs xs.length (Nat.le_refl _) v
 rw [List.take_length] at this
 rw [this]
 constructor
 ·rintro ⟨j, h1, _, h3, h4⟩
  exact ⟨_, List.getElem_mem h1, h3, h4⟩
 ·rintro ⟨x, hx, h3, h4⟩
  obtain ⟨j, hj, rfl⟩ := List.getElem_of_mem hx
  exact ⟨j, hj, hj, h3, h4⟩
def x9 (vs : List Int) (x : TyI) : TyI := if varB x then ⟨(idxN vs x.v : Nat), x.name, x.ar⟩ else x
def x0 (xs : List TyI) : List TyI := xs.map (x9 (xm xs))
theorem xap (xs : List TyI) (k : Nat) (h : k < xs.length) : x9 (xm xs) xs[k] = x9 (xm (xs.take (k + 1))) xs[k] := by
 unfold x9
 split
 ·rename_i hb
  obtain ⟨t, ht⟩ := varsM_pre xs (k + 1)
  rw [ht, V8 _ _ _ ((YO xs (k + 1) (by omega) _).2 ⟨k, h, by omega, hb, rfl⟩)]
 ·rfl
theorem xao {seen : List Int} {x : TyI} (h : varB x = true) (hn : x.v ∉ seen) : x9 (xM seen x) x = ⟨(seen.length : Nat), x.name, x.ar⟩ := by
 unfold x9; rw [if_pos h, vJ h hn, UO _ _ _ hn]
theorem QW {seen : List Int} {x : TyI} (h : varB x = true) (hn : x.v ∈ seen) : x9 (xM seen x) x = ⟨(idxN seen x.v : Nat), x.name, x.ar⟩ := by
 unfold x9; rw [if_pos h, ue (fun _ => hn)]
theorem xan (vs : List Int) {x : TyI} (h : varB x = false) : x9 vs x = x := by unfold x9; rw [h]; rfl
def ins (n : Int) : List Int -> List Int
 | [] => [n]
 | x :: l => if n < x then n :: x :: l else x :: ins n l
def putM (l : List Int) (n : Int) : List Int := if n ∈ l then l else ins n l
def bigB (n : Int) (l : List Int) : Bool := l.any fun x => decide (n < x)
theorem Y2 (n : Int) : ∀ (t r : List Int), bigB n t = false -> ins n (t ++ r) = t ++ ins n r
 | [], r, _ => rfl
 | x :: t, r, h => by
  unfold bigB at h
  rw [List.any_cons, Bool.or_eq_false_iff] at h
  rw [List.cons_append, ins, if_neg (by simpa using h.1), Y2 n t r h.2]; rfl
theorem Qb (n : Int) : ∀ (t r : List Int), bigB n t = true -> ins n (t ++ r) = ins n t ++ r
 | [], r, h => by cases h
 | x :: t, r, h => by
  by_cases q : n < x
  ·rw [List.cons_append, ins, if_pos q, ins, if_pos q]; rfl
  ·unfold bigB at h
   rw [List.any_cons, decide_eq_false q, Bool.false_or] at h
   rw [List.cons_append, ins, if_neg q, ins, if_neg q, Qb n t r h]; rfl
theorem Yk (n : Int) (t : List Int) (x : Int) : bigB n (t ++ [x]) = (bigB n t || decide (n < x)) := by unfold bigB; rw [List.any_append]; simp
def putO (l : List Int) (n : Int) (k : Nat) : List Int := if bigB n (l.take k) then ins n (l.take k) else l.take k
theorem putO_zero (l : List Int) (n : Int) : putO l n 0 = [] := by unfold putO bigB; simp
theorem putO_done (l : List Int) (n : Int) (k : Nat) (h : k < l.length) (hb : bigB n (l.take k) = true) : putO l n (k + 1) = putO l n k ++ [l[k]] /\ bigB n (l.take (k + 1)) = true := by
 have e : l.take (k + 1) = l.take k ++ [l[k]] := List.take_succ_eq_append_getElem h
 have hb2 : bigB n (l.take (k + 1)) = true := by rw [e, Yk, hb]; rfl
 refine ⟨?_, hb2⟩
 unfold putO
 rw [if_pos hb2, if_pos hb, e, Qb n _ _ hb]
theorem putO_now (l : List Int) (n : Int) (k : Nat) (h : k < l.length) (hb : bigB n (l.take k) = false) (hn : n < l[k]) : putO l n (k + 1) = putO l n k ++ [n] ++ [l[k]] /\ bigB n (l.take (k + 1)) = true := by
 have e : l.take (k + 1) = l.take k ++ [l[k]] := List.take_succ_eq_append_getElem h
 have hb2 : bigB n (l.take (k + 1)) = true := by rw [e, Yk, hb, decide_eq_true hn]; rfl
 refine ⟨?_, hb2⟩
 unfold putO
 rw [if_pos hb2, if_neg (by rw [hb]; simp), e, Y2 n _ _ hb]
 have : ins n [l[k]] = [n, l[k]] := by unfold ins; rw [if_pos hn]
 rw [this]; simp
theorem putO_not (l : List Int) (n : Int) (k : Nat) (h : k < l.length) (hb : bigB n (l.take k) = false) (hn : ¬ n < l[k]) : putO l n (k + 1) = putO l n k ++ [l[k]] /\ bigB n (l.take (k + 1)) = false := by
 have e : l.take (k + 1) = l.take k ++ [l[k]] := List.take_succ_eq_append_getElem h
 have hb2 : bigB n (l.take (k + 1)) = false := by rw [e, Yk, hb, decide_eq_false hn]; rfl
 refine ⟨?_, hb2⟩
 unfold putO
 rw [if_neg (by rw [hb2]; simp), if_neg (by rw [hb]; simp), e]
theorem Qv (l : List Int) (n : Int) (k : Nat) : (putO l n k).length <= l.length + 1 := by
 have key : ∀ t : List Int, (ins n t).length = t.length + 1 := by
  intro t
  induction t with
  | nil => rfl
  | cons x t ih =>
   unfold ins
   split
   ·simp
   ·simp [ih]
 unfold putO
 split
 ·rw [key, List.length_take]; omega
 ·rw [List.length_take]; omega
theorem U9 (l : List Int) (n : Int) (hn : n ∉ l) (hb : bigB n (l.take l.length) = true) : putM l n = putO l n l.length := by
 unfold putM putO
 rw [if_neg hn, if_pos hb, List.take_length]
theorem putM_end0 (l : List Int) (n : Int) (hn : n ∉ l) (hb : bigB n (l.take l.length) = false) : putM l n = putO l n l.length ++ [n] := by
 unfold putM putO
 rw [if_neg hn, if_neg (by rw [hb]; simp)]
 rw [List.take_length] at hb ⊢
 have := Y2 n l [] hb
 rw [List.append_nil] at this
 rw [this]; rfl
theorem W0 (n : Int) : ∀ (l : List Int) (x : Int), x ∈ ins n l ↔ x = n \/ x ∈ l
 | [], x => by simp [ins]
 | y :: l, x => by
  unfold ins
  split
  ·simp
  ·rw [List.mem_cons, W0 n l x, List.mem_cons]
   constructor
   ·rintro (h | h | h) <;> simp [h]
   ·rintro (h | h | h) <;> simp [h]
theorem Qg (l : List Int) (n x : Int) : x ∈ putM l n ↔ x = n \/ x ∈ l := by
 unfold putM
 split
 ·rename_i h
  constructor
  ·exact .inr
  ·rintro (rfl | q)
   ·exact h
   ·exact q
 ·exact W0 n l x
abbrev Rises (l : List Int) : Prop := l.Pairwise (· < ·)
theorem UQ (n : Int) : ∀ l : List Int, Rises l -> n ∉ l -> Rises (ins n l)
 | [], _, _ => by simp [ins]
 | y :: l, h, hn => by
  have h := List.pairwise_cons.1 h
  unfold ins
  split
  ·rename_i q
   refine List.pairwise_cons.2 ⟨fun z hz => ?_, List.pairwise_cons.2 h⟩
   rcases List.mem_cons.1 hz with rfl | hz
   ·exact q
   ·have := h.1 z hz; omega
  ·rename_i q
   refine List.pairwise_cons.2 ⟨fun z hz => ?_, UQ n l h.2 (fun m => hn (by simp [m]))⟩
   rcases (W0 n l z).1 hz with rfl | hz
   ·have : ¬ y = z := fun e => hn (by simp [e])
    omega
   ·exact h.1 z hz
theorem xaA (l : List Int) (n : Int) (h : Rises l) : Rises (putM l n) := by
 unfold putM
 split
 ·exact h
 ·rename_i q; exact UQ n l h q
def wa (l : List Int) (x : TyI) : List Int := if varB x then putM l x.v else l
def zo (xs : List TyI) : List Int := xs.foldl wa []
theorem WE (xs : List TyI) (k : Nat) (h : k < xs.length) : zo (xs.take (k + 1)) = wa (zo (xs.take k)) xs[k] := by
 unfold zo
 rw [List.take_succ_eq_append_getElem h, List.foldl_append]; rfl
theorem UK : ∀ (xs : List TyI) (l m : List Int), (∀ v, v ∈ l ↔ v ∈ m) -> Rises l -> (∀ v, v ∈ xs.foldl wa l ↔ v ∈ xs.foldl xM m) /\ Rises (xs.foldl wa l)
 | [], l, m, h, hr => ⟨h, hr⟩
 | x :: xs, l, m, h, hr => by
  rw [List.foldl_cons, List.foldl_cons]
  refine UK xs _ _ (fun v => ?_) ?_
  ·unfold wa xM
   cases hb : varB x
   ·simp [h v]
   ·by_cases q : x.v ∈ m
    ·rw [if_pos rfl, if_neg (fun c => c.2 q), Qg, h v]
     constructor
     ·rintro (rfl | c)
      ·exact q
      ·exact c
     ·exact .inr
    ·rw [if_pos rfl, if_pos ⟨rfl, q⟩, Qg, h v, List.mem_append, List.mem_singleton]
     constructor
     ·rintro (c | c)
      ·exact .inr c
      ·exact .inl c
     ·rintro (c | c)
      ·exact .inr c
      ·exact .inl c
  ·unfold wa
   split
   ·exact xaA _ _ hr
   ·exact hr
theorem Vi (xs : List TyI) (v : Int) : v ∈ zo xs ↔ v ∈ xm xs := (UK xs [] [] (fun _ => Iff.rfl) List.Pairwise.nil).1 v
theorem putM_len (l : List Int) (n : Int) : (putM l n).length <= l.length + 1 := by
 unfold putM
 split
 ·omega
 ·rename_i h
  by_cases hb : bigB n (l.take l.length) = true
  ·have := U9 l n h hb
   unfold putM at this
   rw [if_neg h] at this
   rw [this]; exact Qv l n _
  ·have hb' : bigB n (l.take l.length) = false := by simpa using hb
   rw [List.take_length] at hb'
   have := Y2 n l [] hb'
   rw [List.append_nil] at this
   rw [this]; simp [ins]
theorem Vh (xs : List TyI) : ∀ k, k <= xs.length -> (zo (xs.take k)).length <= k
 | 0, _ => by simp [zo]
 | k + 1, h => by
  rw [WE xs k (by omega)]
  have := Vh xs k (by omega)
  unfold wa
  split
  ·have := putM_len (zo (xs.take k)) xs[k].v; omega
  ·omega
end
section
open Go.RowKit Go.ChangeShapes Go.WideShapes
structure SubM where
 v : Int
 ty : List TyI
def SubM.enc (x : SubM) : List D := [.s (.int .i64 x.v), .sl 3 (x.ty.map TyI.enc)]
theorem SubM.enc_eq (x : SubM) : x.enc = [.s (.int .i64 x.v), .sl 3 (x.ty.map TyI.enc)] := rfl
end
section
end
section
open Go.RowKit
theorem Zm (xs : List Int) (v : Int) : FCon Tryz.prog 154 [xJ xs, .s (.int .i64 v)] (fun r _ => r = .s (.int .i64 (fidx (fun x => v == x) xs))) := by
 refine FI PM Tryz.func154 Tryz.ntmps154 [] rfl rfl ?_
 refine x5 0 rfl trivial fun hlen => ?_
 simp only [List.length_map] at hlen
 (have hWf := f0; repeat' (first | refine zS ?_ | refine zI ?_ ?_ | exact zF0 | refine zD fun hb => ?_ | exact zC | refine zT ?_ | fail))
 refine xd (fun n σ => ∃ k : Nat, k <= xs.length /\ n = xs.length - k /\ σ.t 0 = xJ xs /\ σ.t 1 = .s (.int .i64 v) /\ σ.t 7 = .s (.int .i64 xs.length) /\ σ.t 8 = .s (.int .i64 k) /\ ∀ x ∈ xs.take k, (v == x) = false) xs.length ⟨0, by omega, by omega, ?_⟩ ?_
 ·simp only [go_sem, simprocAttr, Int.natCast_zero]
  all_goals simp
 ·rintro n σ ⟨k, hk, rfl, h0, h1, h7, h8, hno⟩ K' hK
  by_cases hlt : k < xs.length
  ·have hx := xb iE xs k hlt
   have he := xn xs[k]
   by_cases hp : v = xs[k]
   ·have hp' : (v == xs[k]) = true := by simpa using hp
    (have hWf := w7 @h0 @h1 @h7 @h8 @hx @he @hp'; repeat' (first | refine zS ?_ | refine zI ?_ ?_ | exact zF0 | refine zD fun hb => ?_ | exact zC | refine zT ?_ | fail))
    exact xq (by rw [vn (fun x => v == x) xs k hlt hno hp'])
   ·have hp' : (v == xs[k]) = false := by simpa using hp
    (have hWf := w7 @h0 @h1 @h7 @h8 @hx @he @hp'; repeat' (first | refine zS ?_ | refine zI ?_ ?_ | exact zF0 | refine zD fun hb => ?_ | exact zC | refine zT ?_ | fail))
    refine hK (xs.length - (k + 1)) _ (by omega) ⟨k + 1, by omega, rfl, ?_⟩
    simp only [go_sem, simprocAttr, h0, h1, h7, Int.natCast_succ]
    intro x hx
    rw [List.take_succ_eq_append_getElem hlt] at hx
    rcases List.mem_append.1 hx with hx | hx
    ·exact hno x hx
    ·simp at hx; rw [hx]; exact hp'
  ·obtain rfl : k = xs.length := by omega
   (have hWf := w4 @h0 @h1 @h7 @h8; repeat' (first | refine zS ?_ | refine zI ?_ ?_ | exact zF0 | refine zD fun hb => ?_ | exact zC | refine zT ?_ | fail))
   exact xq (by rw [vo (fun x => v == x) xs (by simpa using hno)])
theorem idx_mem (xs : List Int) (v : Int) : decide (fidx (fun x => v == x) xs ≥ 0) = decide (v ∈ xs) := by
 rw [vx, Bool.eq_iff_iff, List.any_eq_true]
 simp
theorem y9 (xs : List Int) (v : Int) : FCon Tryz.prog 192 [xJ xs, .s (.int .i64 v)] (fun r _ => r = .s (.bool (decide (v ∈ xs)))) := by
 refine FI PM Tryz.func192 Tryz.ntmps192 [] rfl rfl ?_
 (have hWf := f0; repeat' (first | refine zS ?_ | refine zI ?_ ?_ | refine zK (Zm xs v) ?_ | exact zF0 | refine zD fun hb => ?_ | exact zC | refine zT ?_ | fail))
 exact sB (idx_mem xs v)
theorem uh (xs : List TyI) (hl : xs.length <= 1000000000) : FCon Tryz.prog 152 [.sl 3 (xs.map TyI.enc)] (fun r _ => r = .osl 3 1 ((xm xs).map iE)) := by
 refine FI PM Tryz.func152 Tryz.ntmps152 [] rfl rfl ?_
 (have hWf := f0; repeat' (first | refine zS ?_ | refine zI ?_ ?_ | exact zF0 | refine zD fun hb => ?_ | exact zC | refine zT ?_ | fail))
 refine xd (fun n σ => ∃ k : Nat, k <= xs.length /\ n = xs.length - k /\ σ.t 3 = .bs 6 1 (xm (xs.take k)).length /\ σ.b 6 = some (.arr 3 1 ((xm (xs.take k)).map iE)) /\ σ.t 7 = .sl 3 (xs.map TyI.enc) /\ σ.t 8 = .s (.int .i64 xs.length) /\ σ.t 9 = .s (.int .i64 k)) xs.length ⟨0, by omega, by omega, ?_⟩ ?_
 ·simp only [go_sem, simprocAttr, Int.natCast_zero]
  simp [xm]
 ·rintro n σ ⟨k, hk, rfl, h3, h6, h7, h8, h9⟩ K' hK
  by_cases hlt : k < xs.length
  ·have hx := xb TyI.enc xs k hlt
   have he := TyI.enc_eq xs[k]
   have hvl := Xc xs k hk
   by_cases hb : varB xs[k] = true /\ xs[k].v ∉ xm (xs.take k)
   ·have e1 : (xs[k].name.toList == []) = true := by have := hb.1; unfold varB at this; simpa using this
    have e2 : decide (xs[k].v ∈ xm (xs.take k)) = false := decide_eq_false hb.2
    have e3 := ud xs k hlt
    rw [vJ hb.1 hb.2] at e3
    (have hWf := w10 @h3 @h6 @h7 @h8 @h9 @hx @he @lit0 @e1 @e2; repeat' (first | refine zS ?_ | refine zI ?_ ?_ | refine zK (y9 (xm (xs.take k)) xs[k].v) ?_ | exact zF0 | refine zD fun hb => ?_ | exact zC | refine zT ?_ | fail))
    refine hK (xs.length - (k + 1)) _ (by omega) ⟨k + 1, by omega, rfl, ?_⟩
    simp only [go_sem, simprocAttr, h3, h6, h7, h8, h9, Int.natCast_succ, e3, List.map_append, xn]
   ·have e3 := ud xs k hlt
    rw [ue (fun q => by simpa [q] using hb)] at e3
    by_cases q : varB xs[k] = true
    ·have e1 : (xs[k].name.toList == []) = true := by unfold varB at q; simpa using q
     have e2 : decide (xs[k].v ∈ xm (xs.take k)) = true := by simpa [q] using hb
     (have hWf := w10 @h3 @h6 @h7 @h8 @h9 @hx @he @lit0 @e1 @e2; repeat' (first | refine zS ?_ | refine zI ?_ ?_ | refine zK (y9 (xm (xs.take k)) xs[k].v) ?_ | exact zF0 | refine zD fun hb => ?_ | exact zC | refine zT ?_ | fail))
     refine hK (xs.length - (k + 1)) _ (by omega) ⟨k + 1, by omega, rfl, ?_⟩
     simp only [go_sem, simprocAttr, h3, h6, h7, h8, h9, Int.natCast_succ, e3]
    ·have e1 : (xs[k].name.toList == []) = false := by unfold varB at q; simpa using q
     (have hWf := w9 @h3 @h6 @h7 @h8 @h9 @hx @he @lit0 @e1; repeat' (first | refine zS ?_ | refine zI ?_ ?_ | refine zK (y9 (xm (xs.take k)) xs[k].v) ?_ | exact zF0 | refine zD fun hb => ?_ | exact zC | refine zT ?_ | fail))
     refine hK (xs.length - (k + 1)) _ (by omega) ⟨k + 1, by omega, rfl, ?_⟩
     simp only [go_sem, simprocAttr, h3, h6, h7, h8, h9, Int.natCast_succ, e3]
  ·obtain rfl : k = xs.length := by omega
   rw [List.take_length] at h3 h6
   (have hWf := w5 @h3 @h6 @h7 @h8 @h9; repeat' (first | refine zS ?_ | refine zI ?_ ?_ | exact zF0 | refine zD fun hb => ?_ | exact zC | refine zT ?_ | fail))
attribute [go_sem] frA
theorem VN (xs : List Int) (v : Int) : FCon Tryz.prog 179 [xJ xs, .s (.int .i64 v)] (fun r _ => r = .s (.bool (decide (v ∈ xs)))) := by
 refine FI PM Tryz.func179 Tryz.ntmps179 [] rfl rfl ?_
 refine x5 0 rfl trivial fun hlen => ?_
 simp only [List.length_map] at hlen
 (have hWf := f0; repeat' (first | refine zS ?_ | refine zI ?_ ?_ | exact zF0 | refine zD fun hb => ?_ | exact zC | refine zT ?_ | fail))
 refine xd (fun n σ => ∃ k : Nat, k <= xs.length /\ n = xs.length - k /\ σ.t 1 = .s (.int .i64 v) /\ σ.t 7 = xJ xs /\ σ.t 8 = .s (.int .i64 xs.length) /\ σ.t 9 = .s (.int .i64 k) /\ ∀ x ∈ xs.take k, x ≠ v) xs.length ⟨0, by omega, by omega, ?_⟩ ?_
 ·simp only [go_sem, simprocAttr, Int.natCast_zero]
  all_goals simp
 ·rintro n σ ⟨k, hk, rfl, h1, h7, h8, h9, hno⟩ K' hK
  by_cases hlt : k < xs.length
  ·have hx := xb iE xs k hlt
   have he := xn xs[k]
   (have hWf := w6 @h1 @h7 @h8 @h9 @hx @he; repeat' (first | refine zS ?_ | refine zI ?_ ?_ | exact zF0 | refine zD fun hb => ?_ | exact zC | refine zT ?_ | fail))
   ·exact sB (decide_eq_true (by rw [<- hb]; exact List.getElem_mem hlt)).symm
   ·refine hK (xs.length - (k + 1)) _ (by omega) ⟨k + 1, by omega, rfl, ?_⟩
    simp only [go_sem, simprocAttr, h1, h7, h8, Int.natCast_succ]
    intro x hx
    rw [List.take_succ_eq_append_getElem hlt] at hx
    rcases List.mem_append.1 hx with hx | hx
    ·exact hno x hx
    ·simp at hx; rw [hx]; exact hb
  ·obtain rfl : k = xs.length := by omega
   (have hWf := w4 @h1 @h7 @h8 @h9; repeat' (first | refine zS ?_ | refine zI ?_ ?_ | exact zF0 | refine zD fun hb => ?_ | exact zC | refine zT ?_ | fail))
   exact sB (decide_eq_false (fun q => hno v (by simpa using q) rfl)).symm
theorem c_l05Put (xs : List Int) (v : Int) (hl : xs.length <= 1048576) : FCon Tryz.prog 222 [xJ xs, .s (.int .i64 v)] (fun r _ => r = xJ (putM xs v)) := by
 refine FCon.ice ?_
 refine FI PM Tryz.func222 Tryz.ntmps222 [] rfl rfl ?_
 (have hWf := f0; repeat' (first | refine zS ?_ | refine zI ?_ ?_ | exact zF0 | refine zD fun hb => ?_ | exact zC | refine zT ?_ | fail))
 refine xd (fun n σ => ∃ k : Nat, k <= xs.length /\ n = xs.length - k /\ σ.t 0 = xJ xs /\ σ.t 1 = .s (.int .i64 v) /\ σ.t 5 = .bs 9 1 (putO xs v k).length /\ σ.b 9 = some (.arr 3 1 ((putO xs v k).map iE)) /\ σ.t 6 = .s (.bool (bigB v (xs.take k))) /\ σ.t 10 = xJ xs /\ σ.t 11 = .s (.int .i64 xs.length) /\ σ.t 12 = .s (.int .i64 k) /\ ∀ x ∈ xs.take k, x ≠ v) xs.length ⟨0, by omega, by omega, ?_⟩ ?_
 ·simp only [go_sem, simprocAttr, Int.natCast_zero, putO_zero, List.take_zero, bigB, List.any_nil]
  all_goals simp
 ·rintro n σ ⟨k, hk, rfl, h0, h1, h5, h9, h6, h10, h11, h12, hno⟩ K' hK
  have hpl := Qv xs v k
  by_cases hlt : k < xs.length
  ·have hx := xb iE xs k hlt
   have he := xn xs[k]
   by_cases hp : xs[k] = v
   ·have hp' : (xs[k] == v) = true := by simpa using hp
    (have hWf := w10 @h0 @h1 @h5 @h9 @h6 @h10 @h11 @h12 @hx (ai @he <| @hp'); repeat' (first | refine zS ?_ | refine zI ?_ ?_ | exact zF0 | refine zD fun hb => ?_ | exact zC | refine zT ?_ | fail))
    rw [show putM xs v = xs by unfold putM; rw [if_pos (by rw [<- hp]; exact List.getElem_mem hlt)]]
   ·have hp' : (xs[k] == v) = false := by simpa using hp
    have hno' : ∀ x ∈ xs.take (k + 1), x ≠ v := by
     intro x hx
     rw [List.take_succ_eq_append_getElem hlt] at hx
     rcases List.mem_append.1 hx with hx | hx
     ·exact hno x hx
     ·simp at hx; rw [hx]; exact hp
    cases hq : bigB v (xs.take k) with
    | true =>
     obtain ⟨q1, q2⟩ := putO_done xs v k hlt hq
     rw [hq] at h6
     (have hWf := w10 @h0 @h1 @h5 @h9 @h6 @h10 @h11 @h12 @hx (ai @he <| @hp'); repeat' (first | refine zS ?_ | refine zI ?_ ?_ | exact zF0 | refine zD fun hb => ?_ | exact zC | refine zT ?_ | fail))
     refine hK (xs.length - (k + 1)) _ (by omega) ⟨k + 1, by omega, rfl, ?_⟩
     simp only [go_sem, simprocAttr, h0, h1, h5, h9, h6, h10, h11, h12, Int.natCast_succ, q1, q2, List.map_append, xn]
     exact hno'
    | false =>
     rw [hq] at h6
     by_cases hn : v < xs[k]
     ·have hn' : decide (v < xs[k]) = true := decide_eq_true hn
      obtain ⟨q1, q2⟩ := putO_now xs v k hlt hq hn
      (have hWf := w10 @h0 @h1 @h5 @h9 @h6 @h10 @h11 @h12 @hx (ai @he <| ai @hp' <| @hn'); repeat' (first | refine zS ?_ | refine zI ?_ ?_ | exact zF0 | refine zD fun hb => ?_ | exact zC | refine zT ?_ | fail))
      refine hK (xs.length - (k + 1)) _ (by omega) ⟨k + 1, by omega, rfl, ?_⟩
      simp only [go_sem, simprocAttr, h0, h1, h5, h9, h6, h10, h11, h12, Int.natCast_succ, q1, q2, List.map_append, xn]
      exact hno'
     ·have hn' : decide (v < xs[k]) = false := decide_eq_false hn
      obtain ⟨q1, q2⟩ := putO_not xs v k hlt hq hn
      (have hWf := w10 @h0 @h1 @h5 @h9 @h6 @h10 @h11 @h12 @hx (ai @he <| ai @hp' <| @hn'); repeat' (first | refine zS ?_ | refine zI ?_ ?_ | exact zF0 | refine zD fun hb => ?_ | exact zC | refine zT ?_ | fail))
      refine hK (xs.length - (k + 1)) _ (by omega) ⟨k + 1, by omega, rfl, ?_⟩
      simp only [go_sem, simprocAttr, h0, h1, h5, h9, h6, h10, h11, h12, Int.natCast_succ, q1, q2, List.map_append, xn]
      exact hno'
  ·obtain rfl : k = xs.length := by omega
   have hni : v ∉ xs := fun q => hno v (by simpa using q) rfl
   cases hq : bigB v (xs.take xs.length) with
   | true =>
    rw [hq] at h6
    rw [U9 xs v hni hq]
    (have hWf := w8 @h0 @h1 @h5 @h9 @h6 @h10 @h11 @h12; repeat' (first | refine zS ?_ | refine zI ?_ ?_ | exact zF0 | refine zD fun hb => ?_ | exact zC | refine zT ?_ | fail))
   | false =>
    rw [hq] at h6
    rw [putM_end0 xs v hni hq]
    (have hWf := w8 @h0 @h1 @h5 @h9 @h6 @h10 @h11 @h12; repeat' (first | refine zS ?_ | refine zI ?_ ?_ | exact zF0 | refine zD fun hb => ?_ | exact zC | refine zT ?_ | fail))
    simp only [xJ, List.map_append, List.map_cons, List.map_nil, xn, frzL, Go.Proofs.YtmnokalddmlogaaGreat.frz]
theorem vS (xs : List TyI) (hl : xs.length <= 1048576) : FCon Tryz.prog 180 [.ag [.sl 3 (xs.map TyI.enc)]] (fun r _ => r = xJ (zo xs)) := by
 refine FI PM Tryz.func180 Tryz.ntmps180 [] rfl rfl ?_
 (have hWf := f0; repeat' (first | refine zS ?_ | refine zI ?_ ?_ | exact zF0 | refine zD fun hb => ?_ | exact zC | refine zT ?_ | fail))
 refine uE (yS 6 (.arr 3 1 []) (by simp only [go_sem, simprocAttr]) rfl (xj ?_))
 simp only [go_sem, simprocAttr]
 refine xd (fun n σ => ∃ k : Nat, k <= xs.length /\ n = xs.length - k /\ σ.t 3 = xJ (zo (xs.take k)) /\ σ.t 8 = .sl 3 (xs.map TyI.enc) /\ σ.t 9 = .s (.int .i64 xs.length) /\ σ.t 10 = .s (.int .i64 k)) xs.length ⟨0, by omega, by omega, ?_⟩ ?_
 ·simp only [go_sem, simprocAttr, Int.natCast_zero, List.take_zero, zo, List.foldl_nil]
  rfl
 ·rintro n σ ⟨k, hk, rfl, h3, h8, h9, h10⟩ K' hK
  by_cases hlt : k < xs.length
  ·have hx := xb TyI.enc xs k hlt
   have he := TyI.enc_eq xs[k]
   have hvl := Vh xs k hk
   have hcc := c_l05Put (zo (xs.take k)) xs[k].v (by omega)
   have e3 := WE xs k hlt
   unfold wa at e3
   by_cases q : varB xs[k] = true
   ·have e1 : (xs[k].name.toList == []) = true := by unfold varB at q; simpa using q
    rw [if_pos q] at e3
    (have hWf := w8 @h3 @h8 @h9 @h10 @hx @he @lit0 @e1; repeat' (first | refine zS ?_ | refine zI ?_ ?_ | refine zK hcc ?_ | exact zF0 | refine zD fun hb => ?_ | exact zC | refine zT ?_ | fail))
    refine hK (xs.length - (k + 1)) _ (by omega) ⟨k + 1, by omega, rfl, ?_⟩
    simp only [go_sem, simprocAttr, h3, h8, h9, h10, Int.natCast_succ, e3]
   ·have e1 : (xs[k].name.toList == []) = false := by unfold varB at q; simpa using q
    rw [if_neg q] at e3
    (have hWf := w8 @h3 @h8 @h9 @h10 @hx @he @lit0 @e1; repeat' (first | refine zS ?_ | refine zI ?_ ?_ | refine zK hcc ?_ | exact zF0 | refine zD fun hb => ?_ | exact zC | refine zT ?_ | fail))
    refine hK (xs.length - (k + 1)) _ (by omega) ⟨k + 1, by omega, rfl, ?_⟩
    simp only [go_sem, simprocAttr, h3, h8, h9, h10, Int.natCast_succ, e3]
  ·obtain rfl : k = xs.length := by omega
   rw [List.take_length] at h3
   (have hWf := w4 @h3 @h8 @h9 @h10; repeat' (first | refine zS ?_ | refine zI ?_ ?_ | exact zF0 | refine zD fun hb => ?_ | exact zC | refine zT ?_ | fail))
theorem VS (s : SubM) (v : Int) : FCon Tryz.prog 191 [.ag s.enc, .pt [.s (.int .i64 v)]] (fun r _ => r = .s (.bool (s.v == v))) := by
 refine FI PM Tryz.func191 Tryz.ntmps191 [] rfl rfl ?_
 (have hWf := w1 @SubM.enc_eq; repeat' (first | refine zS ?_ | refine zI ?_ ?_ | exact zF0 | refine zD fun hb => ?_ | exact zC | refine zT ?_ | fail))
theorem vQ (xs : List SubM) (f : FuncId) (caps : List D) (hm : PM.md f = []) (p : SubM -> Bool) (hf : ∀ x ∈ xs, FCon Tryz.prog f (.ag x.enc :: caps) (fun r _ => r = .s (.bool (p x)))) :
  FCon Tryz.prog 190 [.sl 2 (xs.map SubM.enc), .fn f caps] (fun r _ => r = .s (.int .i64 (fidx p xs))) := by
 refine FI PM Tryz.func190 Tryz.ntmps190 [] rfl rfl ?_
 refine x5 0 rfl trivial fun hlen => ?_
 simp only [List.length_map] at hlen
 (have hWf := f0; repeat' (first | refine zS ?_ | refine zI ?_ ?_ | exact zF0 | refine zD fun hb => ?_ | exact zC | refine zT ?_ | fail))
 refine xd (fun n σ => ∃ k : Nat, k <= xs.length /\ n = xs.length - k /\ σ.t 0 = .sl 2 (xs.map SubM.enc) /\ σ.t 1 = .fn f caps /\ σ.t 7 = .s (.int .i64 xs.length) /\ σ.t 8 = .s (.int .i64 k) /\ ∀ x ∈ xs.take k, p x = false) xs.length ⟨0, by omega, by omega, ?_⟩ ?_
 ·simp only [go_sem, simprocAttr, Int.natCast_zero]
  all_goals simp
 ·rintro n σ ⟨k, hk, rfl, h0, h1, h7, h8, hno⟩ K' hK
  by_cases hlt : k < xs.length
  ·have hx := xb SubM.enc xs k hlt
   have he := SubM.enc_eq xs[k]
   have hfk := hf xs[k] (List.getElem_mem hlt)
   rw [he] at hfk
   cases hp : p xs[k] with
   | true =>
    rw [hp] at hfk
    (have hWf := w7 @h0 @h1 @h7 @h8 @hx @he @hm; repeat' (first | refine zS ?_ | refine zI ?_ ?_ | refine zK hfk ?_ | exact zF0 | refine zD fun hb => ?_ | exact zC | refine zT ?_ | fail))
    all_goals exact xq (by rw [vn p xs k hlt hno hp])
   | false =>
    rw [hp] at hfk
    (have hWf := w7 @h0 @h1 @h7 @h8 @hx @he @hm; repeat' (first | refine zS ?_ | refine zI ?_ ?_ | refine zK hfk ?_ | exact zF0 | refine zD fun hb => ?_ | exact zC | refine zT ?_ | fail))
    refine hK (xs.length - (k + 1)) _ (by omega) ⟨k + 1, by omega, rfl, ?_⟩
    simp only [go_sem, simprocAttr, h0, h1, h7, Int.natCast_succ]
    exact Ze hlt hno hp
  ·obtain rfl : k = xs.length := by omega
   (have hWf := w4 @h0 @h1 @h7 @h8; repeat' (first | refine zS ?_ | refine zI ?_ ?_ | exact zF0 | refine zD fun hb => ?_ | exact zC | refine zT ?_ | fail))
   exact xq (by rw [vo p xs (by simpa using hno)])
theorem c_subAt (l : List SubM) (v : Int) : FCon Tryz.prog 149 [.sl 2 (l.map SubM.enc), .s (.int .i64 v)] (fun r _ => r = .s (.int .i64 (fidx (fun s => s.v == v) l))) := by
 refine FI PM Tryz.func149 Tryz.ntmps149 [] rfl rfl ?_
 (refine xj ?_; simp only [go_sem, simprocAttr]; (have hWf := f0; repeat' (first | refine zY ?_ | refine zI ?_ ?_ | exact zF1 | refine zD fun hb => ?_ | exact zC | refine zT ?_ | fail)))
 refine yS 3 (.box [.s (.int .i64 v)]) (by simp only [go_sem, simprocAttr]) rfl ?_
 (have hWf := f0; repeat' (first | refine zS ?_ | refine zI ?_ ?_ | ((with_reducible apply xc); refine zG (vQ l _ [.pt [.s (.int .i64 v)]] rfl (fun s => s.v == v) (fun s _ => VS s v)) ?_) | ((with_reducible apply xf); refine xe (vQ l _ [.pt [.s (.int .i64 v)]] rfl (fun s => s.v == v) (fun s _ => VS s v)) ?_) | exact zF0 | refine zD fun hb => ?_ | exact zC | refine zT ?_ | fail))
def putI (l : List SubM) (x : TyI) : List TyI := if varB x = true then (match l.find? (fun s => s.v == x.v) with | some s => s.ty | none => [x]) else [x]
def putX (l : List SubM) (xs : List TyI) : List TyI := xs.flatMap (putI l)
theorem Va (l : List SubM) {xs : List TyI} {k : Nat} (h : k < xs.length) : putX l (xs.take (k + 1)) = putX l (xs.take k) ++ putI l xs[k] := by
 unfold putX
 rw [List.take_succ_eq_append_getElem h, List.flatMap_append]; simp
theorem putX_le (l : List SubM) (xs : List TyI) (k : Nat) : (putX l (xs.take k)).length <= (putX l xs).length := by
 have : putX l xs = putX l (xs.take k) ++ putX l (xs.drop k) := by unfold putX; rw [<- List.flatMap_append, List.take_append_drop]
 rw [this, List.length_append]; omega
theorem UF {α : Type} (p : α -> Bool) : ∀ l : List α, (fidx p l = -1 /\ l.find? p = none) \/ ∃ (k : Nat) (h : k < l.length), fidx p l = k /\ l.find? p = some l[k]
 | [] => .inl ⟨rfl, rfl⟩
 | x :: l => by
  cases hp : p x with
  | true => exact .inr ⟨0, by simp, by rw [fidx, if_pos hp]; rfl, by rw [List.find?_cons, hp]; rfl⟩
  | false =>
   have e1 : fidx p (x :: l) = if fidx p l < 0 then -1 else fidx p l + 1 := by rw [fidx, if_neg (by rw [hp]; simp)]
   rcases UF p l with ⟨h1, h2⟩ | ⟨k, h, h1, h2⟩
   ·exact .inl ⟨by rw [e1, h1]; rfl, by rw [List.find?_cons, hp]; exact h2⟩
   ·refine .inr ⟨k + 1, by simpa using h, ?_, ?_⟩
    ·rw [e1, h1, if_neg (by omega)]; push_cast; rfl
    ·rw [List.find?_cons, hp]; simpa using h2
theorem uV (xs : List TyI) (l : List SubM) (hl : xs.length <= 1000000000) (hb0 : (putX l xs).length <= 2199023255552) : FCon Tryz.prog 102 [.sl 3 (xs.map TyI.enc), .sl 2 (l.map SubM.enc)] (fun r _ => r = .osl 143 3 ((putX l xs).map TyI.own)) := by
 refine FI PM Tryz.func102 Tryz.ntmps102 [] rfl rfl ?_
 (have hWf := f0; repeat' (first | refine zS ?_ | refine zI ?_ ?_ | exact zF0 | refine zD fun hb => ?_ | exact zC | refine zT ?_ | fail))
 refine xd (fun n σ => ∃ k : Nat, k <= xs.length /\ n = xs.length - k /\ σ.t 1 = .sl 2 (l.map SubM.enc) /\ σ.t 5 = .bs 9 3 (putX l (xs.take k)).length /\ σ.b 9 = some (.arr 143 3 ((putX l (xs.take k)).map TyI.own)) /\ σ.t 10 = .sl 3 (xs.map TyI.enc) /\ σ.t 11 = .s (.int .i64 xs.length) /\ σ.t 12 = .s (.int .i64 k)) xs.length ⟨0, by omega, by omega, ?_⟩ ?_
 ·simp only [go_sem, simprocAttr, Int.natCast_zero, List.take_zero, putX, List.flatMap_nil]
 ·rintro n σ ⟨k, hk, rfl, h1, h5, h9, h10, h11, h12⟩ K' hK
  by_cases hlt : k < xs.length
  ·have hx := xb TyI.enc xs k hlt
   have he := TyI.enc_eq xs[k]
   have e3 := Va l hlt
   have hle := putX_le l xs (k + 1)
   rw [e3, List.length_append] at hle
   by_cases q : varB xs[k] = true
   ·have e1 : (xs[k].name.toList == []) = true := by unfold varB at q; simpa using q
    rcases UF (fun s : SubM => s.v == xs[k].v) l with ⟨f1, f2⟩ | ⟨j, hj, f1, f2⟩
    ·have e4 : putI l xs[k] = [xs[k]] := by unfold putI; rw [if_pos q, f2]
     rw [e4] at e3 hle
     (have hWf := w10 @h1 @h5 @h9 @h10 @h11 @h12 @hx @he @lit0 (ai @e1 <| @f1); repeat' (first | refine zS ?_ | refine zI ?_ ?_ | refine zK (c_subAt l xs[k].v) ?_ | exact zF0 | refine zD fun hb => ?_ | exact zC | refine zT ?_ | fail))
     refine hK (xs.length - (k + 1)) _ (by omega) ⟨k + 1, by omega, rfl, ?_⟩
     simp only [go_sem, simprocAttr, h1, h5, h9, h10, h11, h12, Int.natCast_succ, e3, List.map_append, TyI.own_eq]
    ·have e4 : putI l xs[k] = l[j].ty := by unfold putI; rw [if_pos q, f2]
     rw [e4] at e3 hle
     have hy := xb SubM.enc l j hj
     have hey := SubM.enc_eq l[j]
     (have hWf := w10 @h1 @h5 @h9 @h10 @h11 @h12 @hx @he @lit0 (ai @e1 <| ai @f1 <| ai @hy <| @hey); repeat' (first | refine zS ?_ | refine zI ?_ ?_ | refine zK (c_subAt l xs[k].v) ?_ | exact zF0 | refine zD fun hb => ?_ | exact zC | refine zT ?_ | fail))
     refine hK (xs.length - (k + 1)) _ (by omega) ⟨k + 1, by omega, rfl, ?_⟩
     simp only [go_sem, simprocAttr, h1, h5, h9, h10, h11, h12, Int.natCast_succ, e3, List.map_append, TyI.own_eq]
   ·have e1 : (xs[k].name.toList == []) = false := by unfold varB at q; simpa using q
    have e4 : putI l xs[k] = [xs[k]] := by unfold putI; rw [if_neg q]
    rw [e4] at e3 hle
    (have hWf := w10 @h1 @h5 @h9 @h10 @h11 @h12 @hx @he @lit0 @e1; repeat' (first | refine zS ?_ | refine zI ?_ ?_ | exact zF0 | refine zD fun hb => ?_ | exact zC | refine zT ?_ | fail))
    refine hK (xs.length - (k + 1)) _ (by omega) ⟨k + 1, by omega, rfl, ?_⟩
    simp only [go_sem, simprocAttr, h1, h5, h9, h10, h11, h12, Int.natCast_succ, e3, List.map_append, TyI.own_eq]
  ·obtain rfl : k = xs.length := by omega
   rw [List.take_length] at h5 h9
   (have hWf := w6 @h1 @h5 @h9 @h10 @h11 @h12; repeat' (first | refine zS ?_ | refine zI ?_ ?_ | exact zF0 | refine zD fun hb => ?_ | exact zC | refine zT ?_ | fail))
def accI (l : List SubM) (x : TyI) : List TyI := if varB x = true then (l.filter fun s => s.v == x.v).flatMap SubM.ty else []
def hitI (l : List SubM) (x : TyI) : Bool := varB x && l.any fun s => s.v == x.v
theorem accI_step {l : List SubM} (x : TyI) {j : Nat} (h : j < l.length) : accI (l.take (j + 1)) x = accI (l.take j) x ++ (if (varB x && l[j].v == x.v) = true then l[j].ty else []) := by
 unfold accI
 rw [List.take_succ_eq_append_getElem h, List.filter_append]
 cases varB x <;> cases hq : (l[j].v == x.v) <;> simp [hq]
theorem hitI_step {l : List SubM} (x : TyI) {j : Nat} (h : j < l.length) : hitI (l.take (j + 1)) x = (hitI (l.take j) x || (varB x && l[j].v == x.v)) := by
 unfold hitI
 rw [List.take_succ_eq_append_getElem h, List.any_append]
 cases varB x <;> simp
theorem VC (v : Int) : ∀ l : List SubM, l.Pairwise (fun a b => a.v ≠ b.v) -> (l.filter fun s => s.v == v).flatMap SubM.ty = match l.find? (fun s => s.v == v) with | some s => s.ty | none => []
 | [], _ => rfl
 | s :: l, h => by
  obtain ⟨h1, h2⟩ := List.pairwise_cons.1 h
  cases hq : (s.v == v) with
  | true =>
   have hn : l.filter (fun s => s.v == v) = [] := List.filter_eq_nil_iff.2 fun y hy e => by
    have e1 : y.v = v := by simpa using e
    have e2 : s.v = v := by simpa using hq
    exact h1 y hy (e2.trans e1.symm)
   rw [List.filter_cons, hq, List.find?_cons, hq, if_pos rfl, hn]; simp
  | false => rw [List.filter_cons, hq, List.find?_cons, hq, if_neg (by simp)]; exact VC v l h2
theorem putI_acc {l : List SubM} (h : l.Pairwise (fun a b => a.v ≠ b.v)) (x : TyI) : putI l x = accI l x ++ (if hitI l x = true then [] else [x]) := by
 unfold putI accI hitI
 cases varB x with
 | false => simp
 | true =>
  rw [if_pos rfl, if_pos rfl, VC x.v l h]
  cases hf : l.find? (fun s => s.v == x.v) with
  | none =>
   have : (l.any fun s => s.v == x.v) = false := List.any_eq_false.2 fun s hs => by have := List.find?_eq_none.1 hf s hs; simpa using this
   rw [this]; simp
  | some s =>
   have : (l.any fun s => s.v == x.v) = true := List.any_eq_true.2 ⟨s, List.mem_of_find?_eq_some hf, List.find?_some (p := fun s : SubM => s.v == x.v) hf⟩
   rw [this]; simp
theorem accI_le (l : List SubM) (x : TyI) (j : Nat) : (accI (l.take j) x).length <= (accI l x).length := by
 have : accI l x = accI (l.take j) x ++ accI (l.drop j) x := by
  unfold accI
  cases varB x with
  | false => simp
  | true => simp only [if_true]; rw [<- List.flatMap_append, <- List.filter_append, List.take_append_drop]
 rw [this, List.length_append]; omega
theorem xag (xs : List TyI) (l : List SubM) (hl : xs.length <= 1000000000) (hl2 : l.length <= 3000000) (hu : l.Pairwise (fun a b => a.v ≠ b.v)) (hb0 : (putX l xs).length <= 2199023255552) : FCon Tryz.prog 39 [.ag [.sl 3 (xs.map TyI.enc)], .sl 2 (l.map SubM.enc)] (fun r _ => r = .ag [.osl 143 3 ((putX l xs).map TyI.own)]) := by
 refine FI PM Tryz.func39 Tryz.ntmps39 [] rfl rfl ?_
 (have hWf := f0; repeat' (first | refine zS ?_ | refine zI ?_ ?_ | exact zF0 | refine zD fun hb => ?_ | exact zC | refine zT ?_ | fail))
 refine uE (Yb 5 0 99 143 3 (row := [.nil]) (by simp only [go_sem, simprocAttr]) rfl (by decide) (by decide) (xj ?_))
 simp only [go_sem, simprocAttr]
 refine xd (fun n σ => ∃ k : Nat, k <= xs.length /\ n = xs.length - k /\ σ.t 1 = .sl 2 (l.map SubM.enc) /\ σ.t 4 = .bx 4 0 /\ σ.b 4 = some (.box [.nil]) /\ σ.t 5 = .bx 5 0 /\ σ.b 5 = some (.box [.bs 99 3 (putX l (xs.take k)).length]) /\ σ.b 99 = some (.arr 143 3 ((putX l (xs.take k)).map TyI.own)) /\ σ.t 13 = .sl 3 (xs.map TyI.enc) /\ σ.t 14 = .s (.int .i64 xs.length) /\ σ.t 15 = .s (.int .i64 k)) xs.length ⟨0, by omega, by omega, ?_⟩ ?_
 ·simp only [go_sem, simprocAttr, Int.natCast_zero, List.take_zero, putX, List.flatMap_nil]
  all_goals trace_state
 ·rintro n σ ⟨k, hk, rfl, h1, h4, hb4, h5, hb5, hb9, h13, h14, h15⟩ K' hK
  by_cases hlt : k < xs.length
  ·have hx := xb TyI.enc xs k hlt
   have he := TyI.enc_eq xs[k]
   have e3 := Va l hlt
   have hle := putX_le l xs (k + 1)
   rw [putI_acc hu] at e3
   rw [e3, List.length_append, List.length_append] at hle
   have hac := accI_le l xs[k]
   (have hWf := w10 @h1 @h4 @hb4 @h5 @hb5 @hb9 @h13 @h14 @h15 (ai @hx <| @he); repeat' (first | refine zS ?_ | refine zI ?_ ?_ | exact zF0 | refine zD fun hb => ?_ | exact zC | refine zT ?_ | fail))
   refine xd (fun n σ => ∃ j : Nat, j <= l.length /\ n = l.length - j /\ σ.t 1 = .sl 2 (l.map SubM.enc) /\ σ.t 4 = .bx 4 0 /\ σ.b 4 = some (.box [.nil]) /\ σ.t 5 = .bx 5 0 /\ σ.b 5 = some (.box [.bs 99 3 ((putX l (xs.take k)).length + (accI (l.take j) xs[k]).length)]) /\ σ.b 99 = some (.arr 143 3 ((putX l (xs.take k)).map TyI.own ++ (accI (l.take j) xs[k]).map TyI.own)) /\ σ.t 7 = .bx 7 0 /\ σ.b 7 = some (.box [.s (.int .i64 xs[k].v), .s (.string xs[k].name), .s (.int .i64 xs[k].ar)]) /\ σ.t 8 = .s (.bool (hitI (l.take j) xs[k])) /\ σ.t 13 = .sl 3 (xs.map TyI.enc) /\ σ.t 14 = .s (.int .i64 xs.length) /\ σ.t 15 = .s (.int .i64 k) /\ σ.t 19 = .sl 2 (l.map SubM.enc) /\ σ.t 20 = .s (.int .i64 l.length) /\ σ.t 21 = .s (.int .i64 j)) l.length ⟨0, by omega, by omega, ?_⟩ ?_
   ·have z1 : accI ([] : List SubM) xs[k] = [] := by unfold accI; simp
    have z2 : hitI ([] : List SubM) xs[k] = false := by unfold hitI; simp
    simp only [go_sem, simprocAttr, h1, h4, hb4, h5, hb5, hb9, h13, h14, h15, Int.natCast_zero, List.take_zero, z1, z2]
    all_goals trace_state
   ·rintro n σ ⟨j, hj, rfl, g1, g4, gb4, g5, gb5, gb9, g7, gb7, g8, g13, g14, g15, g19, g20, g21⟩ K'' hK''
    by_cases hltj : j < l.length
    ·have gx := xb SubM.enc l j hltj
     have ge := SubM.enc_eq l[j]
     have a1 := accI_step xs[k] hltj
     have a2 := hitI_step xs[k] hltj
     have a3 := hac (j + 1)
     have a4 := hac j
     rw [a1, List.length_append] at a3
     by_cases q : varB xs[k] = true
     ·have e1 : (xs[k].name.toList == []) = true := by unfold varB at q; simpa using q
      cases q2 : (l[j].v == xs[k].v) with
      | true =>
       rw [q, q2] at a1 a2 a3
       simp only [Bool.and_self, if_true, Bool.or_true] at a1 a2 a3
       (have hWf := w10 @g1 @g4 @gb4 @g5 @gb5 @gb9 @g7 @gb7 @g8 (ai @g13 <| ai @g14 <| ai @g15 <| ai @g19 <| ai @g20 <| ai @g21 <| ai @gx <| ai @ge <| ai @lit0 <| ai @e1 <| @q2); repeat' (first | refine zS ?_ | refine zI ?_ ?_ | exact zF0 | refine zD fun hb => ?_ | exact zC | refine zT ?_ | fail))
       refine hK'' (l.length - (j + 1)) _ (by omega) ⟨j + 1, by omega, rfl, ?_⟩
       simp only [go_sem, simprocAttr, g1, g4, gb4, g5, gb5, gb9, g7, gb7, g8, g13, g14, g15, g19, g20, g21, Int.natCast_succ, a1, a2, List.map_append, List.append_assoc, Nat.add_assoc]
       all_goals trace_state
      | false =>
       rw [q, q2] at a1 a2
       simp only [Bool.and_false, if_false, Bool.or_false, Bool.false_eq_true, List.append_nil] at a1 a2
       (have hWf := w10 @g1 @g4 @gb4 @g5 @gb5 @gb9 @g7 @gb7 @g8 (ai @g13 <| ai @g14 <| ai @g15 <| ai @g19 <| ai @g20 <| ai @g21 <| ai @gx <| ai @ge <| ai @lit0 <| ai @e1 <| @q2); repeat' (first | refine zS ?_ | refine zI ?_ ?_ | exact zF0 | refine zD fun hb => ?_ | exact zC | refine zT ?_ | fail))
       refine hK'' (l.length - (j + 1)) _ (by omega) ⟨j + 1, by omega, rfl, ?_⟩
       simp only [go_sem, simprocAttr, g1, g4, gb4, g5, gb5, gb9, g7, gb7, g8, g13, g14, g15, g19, g20, g21, Int.natCast_succ, a1, a2]
     ·have e1 : (xs[k].name.toList == []) = false := by unfold varB at q; simpa using q
      have q' : varB xs[k] = false := by simpa using q
      rw [q'] at a1 a2
      simp only [Bool.false_and, if_false, Bool.or_false, Bool.false_eq_true, List.append_nil] at a1 a2
      (have hWf := w10 @g1 @g4 @gb4 @g5 @gb5 @gb9 @g7 @gb7 @g8 (ai @g13 <| ai @g14 <| ai @g15 <| ai @g19 <| ai @g20 <| ai @g21 <| ai @gx <| ai @ge <| ai @lit0 <| @e1); repeat' (first | refine zS ?_ | refine zI ?_ ?_ | exact zF0 | refine zD fun hb => ?_ | exact zC | refine zT ?_ | fail))
      refine hK'' (l.length - (j + 1)) _ (by omega) ⟨j + 1, by omega, rfl, ?_⟩
      simp only [go_sem, simprocAttr, g1, g4, gb4, g5, gb5, gb9, g7, gb7, g8, g13, g14, g15, g19, g20, g21, Int.natCast_succ, a1, a2]
    ·obtain rfl : j = l.length := by omega
     rw [List.take_length] at gb5 gb9 g8
     cases hh : hitI l xs[k] with
     | true =>
      rw [hh] at g8
      rw [hh, if_pos rfl, List.append_nil] at e3
      (have hWf := w10 @g1 @g4 @gb4 @g5 @gb5 @gb9 @g7 @gb7 @g8 (ai @g13 <| ai @g14 <| ai @g15 <| ai @g19 <| ai @g20 <| @g21); repeat' (first | refine zS ?_ | refine zI ?_ ?_ | exact zF0 | refine zD fun hb => ?_ | exact zC | refine zT ?_ | fail))
      refine hK (xs.length - (k + 1)) _ (by omega) ⟨k + 1, by omega, rfl, ?_⟩
      simp only [go_sem, simprocAttr, g1, g4, gb4, g5, gb5, gb9, g7, gb7, g8, g13, g14, g15, Int.natCast_succ, e3, List.map_append]
     | false =>
      rw [hh] at g8
      rw [hh, if_neg (by simp)] at e3 hle
      (have hWf := w10 @g1 @g4 @gb4 @g5 @gb5 @gb9 @g7 @gb7 @g8 (ai @g13 <| ai @g14 <| ai @g15 <| ai @g19 <| ai @g20 <| @g21); repeat' (first | refine zS ?_ | refine zI ?_ ?_ | exact zF0 | refine zD fun hb => ?_ | exact zC | refine zT ?_ | fail))
      refine hK (xs.length - (k + 1)) _ (by omega) ⟨k + 1, by omega, rfl, ?_⟩
      simp only [go_sem, simprocAttr, g1, g4, gb4, g5, gb5, gb9, g7, gb7, g8, g13, g14, g15, Int.natCast_succ, e3, List.map_append, TyI.own_eq, List.append_assoc, Nat.add_assoc]
      all_goals trace_state
  ·obtain rfl : k = xs.length := by omega
   rw [List.take_length] at hb5 hb9
   (have hWf := w9 @h1 @h4 @hb4 @h5 @hb5 @hb9 @h13 @h14 @h15; repeat' (first | refine zS ?_ | refine zI ?_ ?_ | exact zF0 | refine zD fun hb => ?_ | exact zC | refine zT ?_ | fail))
end
end Go.Proofs.YtmnokalddmlogaaGreat
