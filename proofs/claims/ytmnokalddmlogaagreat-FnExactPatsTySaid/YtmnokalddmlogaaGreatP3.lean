/- Parts of the proof, laid together: GkB, GoB. -/
import Derived.Deep.LoopGhost
import Derived.Deep.RegionLaw
import Derived.Deep.RegionWith
import Derived.Deep.Slices
import Derived.Laws.AppendOwn
import Derived.Laws.CopyRow
import Derived.Laws.Cover3
import Derived.Laws.EntriesVeiled
import Derived.Laws.Externs
import Derived.Laws.IdiomStrings
import Derived.Laws.StructEq
import Derived.Lib.AppendStr
import Derived.Lib.AppendZeros
import Derived.Lib.AppendZerosOnto
import Derived.Lib.Hide
import Derived.Lib.Overlaps
import Derived.ProofKit
import Derived.Test.YtmnokalddmlogaaGreatProg
import Derived.WalkKit
import Derived.Test.YtmnokalddmlogaaGreatP2
set_option linter.unusedSimpArgs false
set_option linter.unusedVariables false
set_option maxRecDepth 100000
set_option maxHeartbeats 8000000
namespace Go.Proofs.YtmnokalddmlogaaGreat
section
open Go.RowKit
mutual
def frz : D -> D
 | .osl _ k rows => .sl k (xN rows)
 | .opa k row => .pt ((frzL row).drop k)
 | .s v => .s v
 | .nil => .nil
 | .np => .np
 | .sl k rows => .sl k rows
 | .pt row => .pt row
 | .fn f caps => .fn f caps
 | .bx _ _ => .un
 | .el _ _ _ _ => .un
 | .bs _ _ _ => .un
 | .ag _ => .un
 | .un => .un
 | .tup _ => .un
 | .mb _ _ => .un
def frzL : List D -> List D
 | [] => []
 | d :: l => frz d :: frzL l
def xN : List (List D) -> List (List D)
 | [] => []
 | r :: l => frzL r :: xN l
end
theorem zW (l : List D) : frzL l = l.map frz := by
 induction l with
 | nil => rfl
 | cons d l ih => simp only [frzL, List.map_cons, ih]
theorem yX (l : List (List D)) : xN l = l.map frzL := by
 induction l with
 | nil => rfl
 | cons d l ih => simp only [xN, List.map_cons, ih]
theorem ZM (l : List D) : (frzL l).length = l.length := by rw [zW, List.length_map]
theorem Yw (l : List (List D)) : (xN l).length = l.length := by rw [yX, List.length_map]
inductive Und (up : Nat -> Option Pos) (R : Nat -> Prop) : Nat -> Prop where
 | root {b id : Nat} : up b = some (.root id) -> R id -> Und up R b
 | cell {b b' o : Nat} : up b = some (.cell b' o) -> Und up R b' -> Und up R b
def PU (up : Nat -> Option Pos) (R : Nat -> Prop) : Pos -> Prop
 | .root id => R id
 | .cell b _ => Und up R b
 | .ans _ _ => False
 | .par _ _ => False
theorem wL {up : Nat -> Option Pos} {R : Nat -> Prop} {b : Nat} {p : Pos} (h : up b = some p) : Und up R b ↔ PU up R p := by
 constructor
 ·intro q
  cases q with
  | root h' r => rw [h] at h'; injection h' with h'; subst h'; exact r
  | cell h' r => rw [h] at h'; injection h' with h'; subst h'; exact r
 ·intro q
  cases p with
  | root id => exact .root h q
  | cell b' o => exact .cell h q
  | ans _ _ => exact q.elim
  | par _ _ => exact q.elim
theorem Rep.froz {S S' : Nat -> Prop} {up up' : Nat -> Option Pos} {w : World} {R : Nat -> Prop} (hS : ∀ b, S b -> S' b) (hU : ∀ b, Und up R b -> S' b) {p : Option Pos} {d : D} {v : Value} (h : Rep S up w p d v) (hp : ∀ q, p = some q -> PU up R q) : Rep S' up' w none (frz d) v := by
 have keep : ∀ {p : Option Pos} {d : D} {v : Value}, Rep S up w p d v -> p = none -> Rep S' up' w none d v := by
  intro p d v h hp
  have m : Mv (fun _ => False) (fun p => p) ⟨fun _ => none, fun _ => 0, up, S⟩ ⟨fun _ => none, fun _ => 0, up', S'⟩ w w := ⟨fun b hb => ⟨hS b hb, rfl⟩, fun b p _ q => q.elim, fun b p o _ q => q.elim⟩
  have := Rep.move (g := ⟨fun _ => none, fun _ => 0, up, S⟩) m h (fun q hq => by rw [hp] at hq; cases hq)
  rw [hp] at this; exact this
 induction h with
 | s h => exact .s h
 | nil => exact .nil
 | np => exact .np
 | sl0 h => exact .sl0 h
 | sl us h1 h2 h3 h4 h5 _ => exact .sl us h1 h2 h3 (fun i j row d r1 r2 => ⟨hS _ (h4 i j row d r1 r2).1, (h4 i j row d r1 r2).2⟩) (fun i j row d r1 r2 => keep (h5 i j row d r1 r2) rfl)
 | pt us h1 h2 _ => exact .pt us (fun j d r => ⟨hS _ (h1 j d r).1, (h1 j d r).2⟩) (fun j d r => keep (h2 j d r) rfl)
 | fn us h _ => exact .fn us (fun j d r => keep (h j d r) rfl)
 | osl0 => exact .sl0 (by decide)
 | @osl p e k rows b c cs h1 h2 h3 h4 h5 h6 _ ih =>
  have hb : Und up R b := (wL h1).2 (hp p rfl)
  have hrow : ∀ (i : Nat) (row : List D), (xN rows)[i]? = some row -> ∃ row0, rows[i]? = some row0 /\ row = frzL row0 := by
   intro i row hi
   rw [yX, List.getElem?_map] at hi
   obtain ⟨r0, q1, q2⟩ := Option.map_eq_some_iff.1 hi
   exact ⟨r0, q1, q2.symm⟩
  have hcell : ∀ (i j : Nat) (row : List D) (d : D), (xN rows)[i]? = some row -> row[j]? = some d -> ∃ row0 d0, rows[i]? = some row0 /\ row0[j]? = some d0 /\ d = frz d0 := by
   intro i j row d hi hj
   obtain ⟨r0, q1, rfl⟩ := hrow i row hi
   rw [zW, List.getElem?_map] at hj
   obtain ⟨d0, q2, q3⟩ := Option.map_eq_some_iff.1 hj
   exact ⟨r0, d0, q1, q2, q3.symm⟩
  simp only [frz]
  have key := Rep.sl (S := S') (up := up') (w := w) (p := none) (k := k) (rows := xN rows) (b := b) (off := 0) (c := c) (fun i j => cs.getD (i * k + j) undef) (by rw [Yw]; exact h3) h4 (fun i row hi => by
   obtain ⟨r0, q1, rfl⟩ := hrow i row hi
   rw [ZM]; exact h6 i r0 q1) (fun i j row d hi hj => ⟨hU b hb, by
   obtain ⟨r0, d0, q1, q2, -⟩ := hcell i j row d hi hj
   have hjk : j < k := by rw [<- h6 i r0 q1]; exact (List.getElem?_eq_some_iff.1 q2).1
   have hik := (List.getElem?_eq_some_iff.1 q1).1
   have hlt : i * k + j < cs.size := by
    have h1 : (i + 1) * k <= c * k := Nat.mul_le_mul_right _ (by omega)
    rw [Nat.add_mul, Nat.one_mul] at h1; omega
   simp only [World.cell?, h2, Nat.zero_add]
   rw [if_neg (by simp)]
   exact zP hlt⟩) (fun i j row d hi hj => by
   obtain ⟨r0, d0, q1, q2, rfl⟩ := hcell i j row d hi hj
   exact ih i j r0 d0 q1 q2 (fun q hq => by injection hq with hq; subst hq; exact hb))
  rw [Yw] at key; exact key
 | @opa p k row b ty cs h1 h2 h3 _ ih =>
  have hb : Und up R b := (wL h1).2 (hp p rfl)
  have hcell : ∀ (j : Nat) (d : D), (frzL row)[j]? = some d -> ∃ d0, row[j]? = some d0 /\ d = frz d0 := by
   intro j d hj
   rw [zW, List.getElem?_map] at hj
   obtain ⟨d0, q2, q3⟩ := Option.map_eq_some_iff.1 hj
   exact ⟨d0, q2, q3.symm⟩
  simp only [frz]
  rw [show (⟨b, k, none⟩ : Addr) = ⟨b, 0 + k, none⟩ by rw [Nat.zero_add]]
  refine Rep.pt_drop (Rep.pt (fun j => cs.getD j undef) (fun j d hj => ⟨hU b hb, ?_⟩) (fun j d hj => ?_)) k
  ·obtain ⟨d0, q1, -⟩ := hcell j d hj
   have hlt : j < cs.size := by rw [h3]; exact (List.getElem?_eq_some_iff.1 q1).1
   simp only [World.cell?, h2, Nat.zero_add]
   rw [if_neg (by simp)]
   exact zP hlt
  ·obtain ⟨d0, q1, rfl⟩ := hcell j d hj
   exact ih j d0 q1 (fun q hq => by injection hq with hq; subst hq; exact hb)
def frC (id : Nat) (o : Ob) : D -> D
 | .bs i k n => if i = id then (match o with
  | .arr _ k' rows => if k' = k /\ n <= rows.length then .sl k (xN (rows.take n)) else .un
  | _ => .un) else .bs i k n
 | .bx i off => if i = id then (match o with
  | .box row => .pt (frzL (row.drop off))
  | _ => .un) else .bx i off
 | .el i k j off => if i = id then (match o with
  | .arr _ k' rows => if k' = k /\ j < rows.length then .pt (frzL ((rows.getD j []).drop off)) else .un
  | _ => .un) else .el i k j off
 | d => d
def frE (id : Nat) (o : Ob) : D -> D
 | .ag xs => .ag (xs.map (frC id o))
 | d => frC id o d
def frT (id : Nat) (o : Ob) : D -> D
 | .tup xs => .tup (xs.map (frE id o))
 | .mb c x => .mb c (frE id o x)
 | d => frE id o d
def frO (id : Nat) (o : Ob) : Ob -> Ob
 | .box row => .box (row.map (frC id o))
 | .arr e k rows => .arr e k rows
 | .hol e k rows i c r => .hol e k rows i c (frC id o r)
 | .rw e k rows i rr => .rw e k rows i (rr.map (frC id o))
def St.fr (σ : St) (id : Nat) (o : Ob) : St := ⟨fun i => frT id o (σ.t i), fun i => if i = id then none else (σ.b i).map (frO id o)⟩
def deepO : Ob -> Bool
 | .box row => row.all zN
 | .arr _ _ _ => true
 | .hol _ _ _ _ _ _ => false
 | .rw _ _ _ _ _ => false
theorem UM (l : List D) (n : Nat) : frzL (l.drop n) = (frzL l).drop n := by rw [zW, zW, List.map_drop]
theorem Rel.freeze {x : Cx} {g : Gh} {σ : St} {a : Act} {w : World} (h : Rel x g σ a w) (id : Nat) (o : Ob) (ho : σ.b id = some o) (hd : deepO o = true) : ∃ g', Rel x g' (σ.fr id o) a w := by
 classical
 let R : Nat -> Prop := fun i => i = id
 let g' : Gh := ⟨g.β, g.κ, fun b => if Und g.up R b then none else g.up b, fun b => g.S b \/ Und g.up R b⟩
 have hlt : ∀ b, Und g.up R b -> b < w.heap.size /\ (b < x.w0.heap.size -> x.G b) := fun b q => by
  cases q with
  | root h' _ => exact ⟨(h.own b _ h').1, (h.own b _ h').2.1⟩
  | cell h' _ => exact ⟨(h.own b _ h').1, (h.own b _ h').2.1⟩
 have ev : Ev (fun p => ¬ PU g.up R p) (fun p => p) pAll (fun i => decide (i ≠ id)) g g' w w := by
  refine ⟨⟨fun b hb => ⟨.inl hb, rfl⟩, fun b p hp ho => ⟨?_, rfl⟩, fun b p o hp ho => ⟨fun q => ho ((wL hp).1 q), rfl⟩⟩, fun i _ => ⟨rfl, rfl⟩, fun i hi => ⟨rfl, fun q => ?_, rfl⟩⟩
  ·show (if Und g.up R b then none else g.up b) = _
   rw [if_neg (fun q => ho ((wL hp).1 q))]; exact hp
  ·simp only [decide_eq_true_eq] at hi
   exact hi q
 have hR := h.ev ev (Below.refl _ _) (fun b _ _ => rfl) (fun b hb hs => hs.elim .inl (fun q => .inr ((hlt b q).2 hb))) (fun b hs => hs.elim (h.new b) (fun q => (hlt b q).1)) (fun b p hp => by
  simp only [g'] at hp
  split at hp
  ·cases hp
  ·rename_i q
   obtain ⟨o1, o2, o3⟩ := h.own b p hp
   exact ⟨o1, o2, fun r => r.elim o3 q⟩)
 have hC : ∀ {p : Option Pos} (y : D) (v : Value), RC g w p y v -> RC g' w p (scC pAll y) v -> RC g' w p (frC id o y) v := by
  intro p y v h1 h2
  rw [Xs] at h2
  have hob := h.ob id o ho
  cases y with
  | bs i k n =>
   simp only [frC]
   split
   ·rename_i e
    subst e
    obtain ⟨rfl, h3, h4, h5⟩ := h1
    split
    ·rename_i e' k' rows
     split
     ·rename_i hc
      obtain ⟨rfl, hn⟩ := hc
      have := (Rep.osl_take hob n hn).froz (S' := g'.S) (up' := g'.up) (R := R) (fun b => .inl) (fun b => .inr) (fun q hq => by injection hq with hq; subst hq; exact rfl)
      exact (this.any p).rc
     ·rfl
    ·rfl
   ·exact h2
  | bx i off =>
   simp only [frC]
   split
   ·rename_i e
    subst e
    obtain ⟨b, h3, rfl⟩ := h1
    split
    ·rename_i row
     obtain ⟨b', cs, ty, b1, b2, b3, b4, b5⟩ := hob
     rw [b1] at h3; injection h3 with h3; subst h3
     have hrep : Rep g.S g.up w (some (.root i)) (.opt row) (.pointer (some ⟨b', 0, none⟩)) := .opt cs b2 b3 b4 fun j d hj => (b5 j d hj).deep (List.all_eq_true.1 hd d (List.mem_of_getElem? hj))
     have := hrep.froz (S' := g'.S) (up' := g'.up) (R := R) (fun b => .inl) (fun b => .inr) (fun q hq => by injection hq with hq; subst hq; exact rfl)
     simp only [frz, List.drop_zero] at this
     have := (Rep.pt_drop this off).any p
     rw [Nat.zero_add, <- UM] at this
     exact this.rc
    ·rfl
   ·exact h2
  | el i k j off =>
   simp only [frC]
   split
   ·rename_i e
    subst e
    obtain ⟨b, h3, rfl⟩ := h1
    split
    ·rename_i e' k' rows
     split
     ·rename_i hc
      obtain ⟨rfl, hn⟩ := hc
      have hob : Rep g.S g.up w (some (.root i)) (.osl e' k' rows) (.slice ((g.β i).map fun b => ⟨b, 0, none⟩) rows.length (g.κ i)) := hob
      rw [h3, Option.map_some] at hob
      have := hob.froz (S' := g'.S) (up' := g'.up) (R := R) (fun b => .inl) (fun b => .inr) (fun q hq => by injection hq with hq; subst hq; exact rfl)
      obtain ⟨ad, q1, -, q2⟩ := Rep.row (p := none) this j (by rw [Yw]; exact hn)
      injection q1 with q1
      subst q1
      have hg : rows[j]? = some rows[j] := List.getElem?_eq_getElem hn
      have hgd : (xN rows).getD j [] = frzL (rows.getD j []) := by
       rw [xZ hg, List.getD_eq_getElem?_getD, yX, List.getElem?_map, hg]; rfl
      rw [hgd, add_lit, Nat.zero_add] at q2
      have := (Rep.pt_drop q2 off).any p
      rw [<- UM] at this
      exact this.rc
     ·rfl
    ·rfl
   ·exact h2
  | _ => exact h2
 have hE : ∀ (y : D) (v : Value), RE g w y v -> RE g' w (frE id o y) v := by
  intro y v hy
  have h2 := hy.ev ev
  cases y with
  | ag xs =>
   obtain ⟨us, rfl, u1, u2⟩ := hy
   refine ⟨us, rfl, by simp [u1], fun j z u hz hu => ?_⟩
   rw [List.getElem?_map] at hz
   obtain ⟨y0, q1, rfl⟩ := Option.map_eq_some_iff.1 hz
   have h3 := u2 j y0 u q1 hu
   exact hC y0 u h3 (h3.ev ev (p := none) (fun z hz => by cases hz))
  | un => trivial
  | _ =>
   simp only [RE] at hy
   exact (hC _ v hy (hy.ev ev (p := none) (fun z hz => by cases hz))).re
 refine ⟨g', hR.bel, hR.fr, hR.dfr, hR.sz, fun i => ?_, hR.s0, hR.old, hR.new, hR.own, fun i o' hi => ?_, fun i o' hi hq => ?_⟩
 ·have hi := h.tm i
  show RT g' w (frT id o (σ.t i)) _
  generalize σ.t i = y at hi
  cases y with
  | tup xs =>
   obtain ⟨us, hv, u1, u2⟩ := hi
   refine ⟨us, hv, by simp [u1], fun j z u hz hu => ?_⟩
   rw [List.getElem?_map] at hz
   obtain ⟨y0, q1, rfl⟩ := Option.map_eq_some_iff.1 hz
   exact hE y0 u (u2 j y0 u q1 hu)
  | mb c y => exact ⟨fun hc => hE y _ (hi.1 hc), hi.2⟩
  | _ => simp only [RT] at hi; exact (hE _ _ hi).rt
 ·simp only [St.fr] at hi
  split at hi
  ·cases hi
  ·rename_i hne
   obtain ⟨o0, q1, rfl⟩ := Option.map_eq_some_iff.1 hi
   have h1 := h.ob i o0 q1
   have h2 := h1.ev ev (id := i) (by simpa using hne)
   cases o0 with
   | arr e k rows => exact h2
   | hol e k rows i0 c0 r =>
    obtain ⟨b, cs, b1, b2, b3, b4, b5, b6, b7, b8, b9, b10, b11⟩ := h1
    obtain ⟨b', cs', c1, c2, c3, c4, c5, c6, c7, c8, c9, c10, c11⟩ := h2
    have : g'.β = g.β := rfl
    rw [this, b1] at c1; injection c1 with c1; subst c1
    rw [b3] at c3; injection c3 with c3; injection c3 with c3 c12; subst c3
    exact ⟨b, cs, b1, c2, b3, b4, b5, b6, b7, b8, b9, hC r _ b10 c10, c11⟩
   | rw e k rows i0 rr =>
    obtain ⟨b, cs, b1, b2, b3, b4, b5, b6, b7, b8, b9, b10, b11⟩ := h1
    obtain ⟨b', cs', c1, c2, c3, c4, c5, c6, c7, c8, c9, c10, c11⟩ := h2
    have : g'.β = g.β := rfl
    rw [this, b1] at c1; injection c1 with c1; subst c1
    rw [b3] at c3; injection c3 with c3; injection c3 with c3 c12; subst c3
    refine ⟨b, cs, b1, c2, b3, b4, b5, b6, b7, b8, by rw [List.length_map]; exact b9, fun j d hj => ?_, c11⟩
    rw [List.getElem?_map] at hj
    obtain ⟨d0, q2, rfl⟩ := Option.map_eq_some_iff.1 hj
    have := c10 j (scC pAll d0) (by rw [List.getElem?_map, q2]; rfl)
    exact hC d0 _ (b10 j d0 q2) this
   | box row =>
    obtain ⟨b, cs, ty, b1, b2, b3, b4, b5⟩ := h1
    obtain ⟨b', cs', ty', c1, c2, c3, c4, c5⟩ := h2
    have : g'.β = g.β := rfl
    rw [this, b1] at c1; injection c1 with c1; subst c1
    rw [b3] at c3; injection c3 with c3; injection c3 with c3 c6; subst c3
    refine ⟨b, cs, ty, b1, c2, b3, by simp [b4], fun j d hj => ?_⟩
    rw [List.getElem?_map] at hj
    obtain ⟨d0, q2, rfl⟩ := Option.map_eq_some_iff.1 hj
    have := c5 j (scC pAll d0) (by rw [List.getElem?_map, q2]; rfl)
    exact hC d0 _ (b5 j d0 q2) this
 ·simp only [St.fr] at hi
  split at hi
  ·cases hi
  ·obtain ⟨o0, q1, -⟩ := Option.map_eq_some_iff.1 hi
   exact h.par i o0 q1 hq
theorem Wv {σ : St} : ∀ (l : List D) (ob : Prop) (ds : List D), fdL σ l = some (ob, ds) -> ob -> ds.length = l.length /\ ∀ (j : Nat) (c d : D), l[j]? = some c -> ds[j]? = some d -> ∃ o1, fdC σ c = some (o1, d) /\ o1
 | [], ob, ds, h, ho => by injection h with h; injection h with e1 e2; subst e2; exact ⟨rfl, fun j c d q => by simp at q⟩
 | c :: l, ob, ds, h, ho => by
  unfold fdL at h
  split at h
  ·rename_i o1 d o2 ds' h1 h2
   injection h with h; injection h with e1 e2
   subst e1 e2
   obtain ⟨i1, i2⟩ := Wv l o2 ds' h2 ho.2
   refine ⟨by simp [i1], fun j c' d' q1 q2 => ?_⟩
   cases j with
   | zero => simp at q1 q2; subst q1 q2; exact ⟨o1, h1, ho.1⟩
   | succ j => exact i2 j c' d' (by simpa using q1) (by simpa using q2)
  ·cases h
def foldB (σ : St) (id : Nat) : Option (Prop × List D × St) := match σ.b id with
 | some (.box row) => match fdL σ row with
  | some (ob, ds) => some (ob /\ nodB (idsC row) = true /\ pOut (idsC row) id = true, ds, (σ.sc (pOut (idsC row)) (pOut (idsC row))).setB id (.box ds))
  | none => none
 | _ => none
theorem fdC_deep {σ : St} {c d : D} {ob : Prop} (h : fdC σ c = some (ob, d)) : zN d = true := by
 cases c with
 | bs id k n => simp only [fdC] at h; split at h; (injection h with h; injection h with _ h; subst h; rfl); cases h
 | bx id off => simp only [fdC] at h; split at h; (injection h with h; injection h with _ h; subst h; rfl); cases h
 | el _ _ _ _ => cases h
 | ag _ => cases h
 | un => cases h
 | tup _ => cases h
 | mb _ _ => cases h
 | _ => (simp only [fdC] at h; injection h with h; injection h with _ h; subst h; rfl)
theorem fdL_deep {σ : St} {l ds : List D} {ob : Prop} (h : fdL σ l = some (ob, ds)) : ds.all zN = true := by
 induction l generalizing ob ds with
 | nil => injection h with h; injection h with _ h; subst h; rfl
 | cons c l ih =>
  unfold fdL at h
  split at h
  ·rename_i o1 d o2 ds' h1 h2
   injection h with h; injection h with _ h
   subst h
   simp only [List.all_cons, Bool.and_eq_true]
   exact ⟨fdC_deep h1, ih h2⟩
  ·cases h
theorem Rel.foldB {x : Cx} {g : Gh} {σ σ' : St} {a : Act} {w : World} (h : Rel x g σ a w) {id : Nat} {ob : Prop} {ds : List D} (hf : foldB σ id = some (ob, ds, σ')) (ho : ob) : ∃ g', Rel x g' σ' a w := by
 unfold Go.Proofs.YtmnokalddmlogaaGreat.foldB at hf
 split at hf
 ·rename_i row hb
  split at hf
  ·rename_i ob' ds' hfd
   injection hf with hf; injection hf with e1 e2; injection e2 with e2 e3
   subst e1 e2 e3
   obtain ⟨o1, o2, o3⟩ := ho
   obtain ⟨b, cs, ty, b1, b2, b3, b4, b5⟩ := h.ob id _ hb
   obtain ⟨l1, l2⟩ := Wv _ _ _ hfd o1
   have hne : id ∉ idsC row := fun q => xt o3 id q rfl
   let π : Pos -> Pos := fun p => match p with
    | .root m => if m ∈ idsC row then .cell b (tgtC row m) else .root m
    | p => p
   have ev : Ev (fun _ => True) π (pOut (idsC row)) (pOut (idsC row)) g ⟨g.β, g.κ, fun c => (g.up c).map π, g.S⟩ w w := by
    refine ⟨⟨fun c hc => ⟨hc, rfl⟩, fun c p hc _ => ⟨by show (g.up c).map π = _; rw [hc]; rfl, rfl⟩, fun c p o _ _ => ⟨trivial, rfl⟩⟩, fun m _ => ⟨rfl, rfl⟩, fun m hm => ⟨hm, trivial, ?_⟩⟩
    show (if m ∈ idsC row then _ else _) = _
    rw [if_neg (fun q => xt hm m q rfl)]
   have hR := h.ev ev (Below.refl _ _) (fun b _ _ => rfl) (fun b _ hs => .inl hs) h.new (fun c p hc => by
    simp only at hc
    obtain ⟨p', hp', -⟩ := Option.map_eq_some_iff.1 hc
    exact h.own c p' hp')
   refine ⟨_, hR.setB (id := id) ⟨b, cs, ty, b1, ?_, b3, by rw [l1]; exact b4, fun j d hj => ?_⟩ (h.par id _ hb)⟩
   ·show (g.up b).map π = _
    rw [b2]
    show some (if id ∈ idsC row then _ else _) = _
    rw [if_neg hne]
   ·have hlt : j < row.length := by rw [<- l1]; exact (List.getElem?_eq_some_iff.1 hj).1
    have hc : row[j]? = some row[j] := List.getElem?_eq_getElem hlt
    obtain ⟨o4, f1, f2⟩ := l2 j _ d hc hj
    rcases Xp h f1 f2 (b5 j _ hc) with ⟨-, q⟩ | ⟨m, q1, q2⟩
    ·have := Rep.move ev.toMv q (fun _ _ => trivial)
     exact this.rc
    ·have := Rep.move ev.toMv q2 (fun _ _ => trivial)
     simp only [Option.map_some, π, if_pos (ul hc q1), Uh o2 hc q1] at this
     exact this.rc
  ·cases hf
 ·cases hf
def nmU (id j : Nat) : Nat := 1000000 * (j + 1) + id
def unfC (id j : Nat) : D -> D
 | .osl _ k rows => .bs (nmU id j) k rows.length
 | .opa k _ => .bx (nmU id j) k
 | d => d
def unfL (id : Nat) : Nat -> List D -> List D
 | _, [] => []
 | j, d :: l => unfC id j d :: unfL id (j + 1) l
def unfD : D -> Option Ob
 | .osl e k rows => some (.arr e k rows)
 | .opa _ row => some (.box row)
 | _ => none
def unfO (id : Nat) (row : List D) (i : Nat) : Option Ob := if i % 1000000 = id /\ 1000000 <= i then (row[i / 1000000 - 1]?).bind unfD else none
def pUn (id : Nat) (row : List D) (i : Nat) : Bool := (unfO id row i).isNone
def St.unfB (σ : St) (id : Nat) (row : List D) : St :=
 ⟨fun i => scT (pUn id row) (σ.t i), fun i => if i = id then some (.box (unfL id 0 row)) else match unfO id row i with
  | some o => some o
  | none => (σ.b i).map (scO (pUn id row))⟩
theorem unfL_at (id : Nat) : ∀ (l : List D) (q j : Nat), (unfL id q l)[j]? = (l[j]?).map (unfC id (q + j))
 | [], q, j => by simp [unfL]
 | d :: l, q, 0 => by simp [unfL]
 | d :: l, q, j + 1 => by
  rw [unfL, List.getElem?_cons_succ, unfL_at id l (q + 1) j, List.getElem?_cons_succ]
  congr 2; omega
theorem unfL_len (id : Nat) (l : List D) (q : Nat) : (unfL id q l).length = l.length := by
 induction l generalizing q with
 | nil => rfl
 | cons d l ih => simp [unfL, ih]
def blkV : Value -> Option Nat
 | .slice (some a) _ _ => some a.block
 | .pointer (some a) => some a.block
 | _ => none
def capV : Value -> Nat
 | .slice (some _) _ c => c
 | _ => 0
theorem Rel.unfB {x : Cx} {g : Gh} {σ : St} {a : Act} {w : World} (h : Rel x g σ a w) {id : Nat} {row : List D} (hb : σ.b id = some (.box row)) (hd : row.all zN = true) (hid : id < 1000000) : ∃ g', Rel x g' (σ.unfB id row) a w := by
 obtain ⟨b, cs, ty, b1, b2, b3, b4, b5⟩ := h.ob id _ hb
 have hcell : ∀ (j : Nat) (d : D), row[j]? = some d -> Rep g.S g.up w (some (.cell b j)) d (cs.getD j undef) := fun j d hj => (b5 j d hj).deep (List.all_eq_true.1 hd d (List.mem_of_getElem? hj))
 let own : Nat -> Bool := fun j => ((row[j]?).bind unfD).isSome
 have hnm : ∀ j, unfO id row (nmU id j) = (row[j]?).bind unfD := fun j => by
  unfold unfO nmU
  rw [if_pos (by omega)]
  congr 2; omega
 have hnm' : ∀ i o, unfO id row i = some o -> ∃ j, i = nmU id j /\ (row[j]?).bind unfD = some o := fun i o hi => by
  unfold unfO at hi
  split at hi
  ·rename_i q
   exact ⟨i / 1000000 - 1, by unfold nmU; omega, hi⟩
  ·cases hi
 have hnid : ∀ j, nmU id j ≠ id := fun j => by unfold nmU; omega
 let π : Pos -> Pos := fun p => match p with
  | .cell c j => if c = b /\ own j = true then .root (nmU id j) else .cell c j
  | p => p
 let g' : Gh := ⟨fun i => if pUn id row i = true then g.β i else blkV (cs.getD (i / 1000000 - 1) undef), fun i => if pUn id row i = true then g.κ i else capV (cs.getD (i / 1000000 - 1) undef), fun c => (g.up c).map π, g.S⟩
 have hnj : ∀ j, nmU id j / 1000000 - 1 = j := fun j => by unfold nmU; omega
 have hpn : ∀ j o, (row[j]?).bind unfD = some o -> pUn id row (nmU id j) = false := fun j o q => by unfold pUn; rw [hnm, q]; rfl
 have hpid : pUn id row id = true := by
  unfold pUn
  cases hq : unfO id row id with
  | none => rfl
  | some o => obtain ⟨j, e, -⟩ := hnm' _ _ hq; exact absurd e.symm (hnid j)
 have ev : Ev (fun p => p ≠ .root id /\ ∀ i, p = .root i -> pUn id row i = true) π (pUn id row) (fun i => pUn id row i && i != id) g g' w w := by
  refine ⟨⟨fun c hc => ⟨hc, rfl⟩, fun c p hc hp => ⟨by show (g.up c).map π = _; rw [hc]; rfl, rfl⟩, fun c p o hc hp => ⟨⟨by simp, by simp⟩, ?_⟩⟩, fun i hi => ⟨by show (if _ then _ else _) = _; rw [if_pos hi], by show (if _ then _ else _) = _; rw [if_pos hi]⟩, fun i hi => ?_⟩
  ·show (if c = b /\ own o = true then _ else _) = _
   rw [if_neg]
   rintro ⟨rfl, -⟩
   rw [b2] at hc; injection hc with hc
   exact hp.1 hc.symm
  ·simp only [Bool.and_eq_true, bne_iff_ne, ne_eq] at hi
   exact ⟨hi.1, ⟨fun e => by injection e with e; exact hi.2 e, fun i' e => by injection e with e; subst e; exact hi.1⟩, rfl⟩
 have hR := h.ev ev (Below.refl _ _) (fun b _ _ => rfl) (fun b _ hs => .inl hs) h.new (fun c p hc => by
  simp only [g'] at hc
  obtain ⟨p', hp', -⟩ := Option.map_eq_some_iff.1 hc
  exact h.own c p' hp')
 have hmv : ∀ (j : Nat) (d : D), row[j]? = some d -> Rep g'.S g'.up w (some (if own j = true then .root (nmU id j) else .cell b j)) d (cs.getD j undef) := fun j d hj => by
  have := Rep.move ev.toMv (hcell j d hj) (fun q hq => by injection hq with hq; subst hq; exact ⟨by simp, by simp⟩)
  rw [Option.map_some] at this
  by_cases ho : own j = true
  ·rw [if_pos ho]
   have e : π (.cell b j) = .root (nmU id j) := by show (if b = b /\ own j = true then _ else _) = _; rw [if_pos ⟨rfl, ho⟩]
   rw [e] at this; exact this
  ·rw [if_neg ho]
   have e : π (.cell b j) = .cell b j := by show (if b = b /\ own j = true then _ else _) = _; rw [if_neg (fun q => ho q.2)]
   rw [e] at this; exact this
 refine ⟨g', hR.bel, hR.fr, hR.dfr, hR.sz, hR.tm, hR.s0, hR.old, hR.new, hR.own, fun i o hi => ?_, fun i o hi hq => ?_⟩
 rotate_left
 ·have hp : pUn id row i = true := by
   unfold pUn
   cases hu : unfO id row i with
   | none => rfl
   | some o' =>
    obtain ⟨j, rfl, -⟩ := hnm' _ _ hu
    exfalso
    unfold isP nmU at hq
    rw [Bool.and_eq_true, decide_eq_true_eq, decide_eq_true_eq] at hq
    have := hq.2
    omega
  have hb' : ∃ o', σ.b i = some o' := by
   simp only [St.unfB] at hi
   split at hi
   ·rename_i e; subst e; exact ⟨_, hb⟩
   ·split at hi
    ·rename_i hu; unfold pUn at hp; rw [hu] at hp; cases hp
    ·obtain ⟨o0, q1, -⟩ := Option.map_eq_some_iff.1 hi; exact ⟨o0, q1⟩
  obtain ⟨o', hb'⟩ := hb'
  have := h.par i o' hb' hq
  constructor
  ·show (if _ then _ else _) = _
   rw [if_pos hp]; exact this.1
  ·show (if _ then _ else _) = _
   rw [if_pos hp]; exact this.2
 simp only [St.unfB] at hi
 split at hi
 ·rename_i e
  subst e
  injection hi with hi
  subst hi
  refine ⟨b, cs, ty, ?_, ?_, b3, by rw [unfL_len]; exact b4, fun j d hj => ?_⟩
  ·show (if _ then _ else _) = _
   rw [if_pos hpid]; exact b1
  ·show (g.up b).map π = _
   rw [b2]; rfl
  ·rw [unfL_at, Nat.zero_add] at hj
   obtain ⟨d0, q1, rfl⟩ := Option.map_eq_some_iff.1 hj
   have hm := hmv j d0 q1
   by_cases ho : own j = true
   ·rw [if_pos ho] at hm
    have hβ : g'.β (nmU i j) = blkV (cs.getD j undef) /\ g'.κ (nmU i j) = capV (cs.getD j undef) := by
     obtain ⟨o', ho'⟩ := Option.isSome_iff_exists.1 ho
     have hp := hpn j o' ho'
     constructor
     ·show (if _ then _ else _) = _
      rw [if_neg (by rw [hp]; simp), hnj]
     ·show (if _ then _ else _) = _
      rw [if_neg (by rw [hp]; simp), hnj]
    generalize cs.getD j undef = v at hm hβ
    cases d0 with
    | osl e k rows =>
     show v = .slice ((g'.β (nmU i j)).map _) _ _ /\ _
     rw [hβ.1, hβ.2]
     cases hm with
     | osl0 => exact ⟨rfl, Nat.zero_le _, by simp [capV, maxLen], fun _ => rfl⟩
     | osl cs' r1 r2 r3 r4 r5 r6 r7 => exact ⟨rfl, r3, r4, fun q => by cases q⟩
    | opa k r =>
     cases hm with
     | opa cs' r1 r2 r3 r4 => exact ⟨_, hβ.1, rfl⟩
    | _ => (simp only [own, q1, Option.bind_some, unfD] at ho; cases ho)
   ·rw [if_neg ho] at hm
    have hc : unfC i j d0 = d0 := by
     cases d0 with
     | osl e k rows => exact absurd (by simp only [own, q1, Option.bind_some, unfD]; rfl) ho
     | opa k r => exact absurd (by simp only [own, q1, Option.bind_some, unfD]; rfl) ho
     | _ => rfl
    rw [hc]; exact hm.rc
 ·rename_i hne
  split at hi
  ·rename_i o' ho'
   injection hi with hi
   subst hi
   obtain ⟨j, rfl, hj⟩ := hnm' _ _ ho'
   obtain ⟨d0, q1, q2⟩ := Option.bind_eq_some_iff.1 hj
   have hm := hmv j d0 q1
   rw [if_pos (by simp only [own, hj]; rfl)] at hm
   have hp := hpn j _ hj
   have hβ : g'.β (nmU id j) = blkV (cs.getD j undef) /\ g'.κ (nmU id j) = capV (cs.getD j undef) := by
    constructor
    ·show (if _ then _ else _) = _
     rw [if_neg (by rw [hp]; simp), hnj]
    ·show (if _ then _ else _) = _
     rw [if_neg (by rw [hp]; simp), hnj]
   generalize cs.getD j undef = v at hm hβ
   cases d0 with
   | osl e k rows =>
    injection q2 with q2
    subst q2
    show Rep _ _ _ _ _ _
    rw [hβ.1, hβ.2]
    cases hm with
    | osl0 => exact .osl0
    | osl cs' r1 r2 r3 r4 r5 r6 r7 => exact .osl cs' r1 r2 r3 r4 r5 r6 r7
   | opa k r =>
    injection q2 with q2
    subst q2
    cases hm with
    | opa cs' r1 r2 r3 r4 => exact ⟨_, cs', _, hβ.1, r1, r2, r3, fun j' d' hj' => (r4 j' d' hj').rc⟩
   | _ => cases q2
  ·rename_i ho'
   obtain ⟨o0, q1, rfl⟩ := Option.map_eq_some_iff.1 hi
   exact hR.ob i _ (by
    simp only [St.sc]
    rw [if_pos (by simp [pUn, ho', hne]), q1]; rfl)
def refC (nm : Nat) : D -> D
 | .osl _ k rows => .bs nm k rows.length
 | .opa k _ => .bx nm k
 | c => c
theorem Rep.ref {g : Gh} {w : World} {nm : Nat} {c : D} {u : Value} (h : Rep g.S g.up w (some (.root nm)) c u) (hβ : g.β nm = blkV u) (hκ : g.κ nm = capV u) : RC g w none (refC nm c) u := by
 cases c with
 | osl e k rows =>
  show u = .slice ((g.β nm).map _) _ _ /\ _
  rw [hβ, hκ]
  cases h with
  | osl0 => exact ⟨rfl, Nat.zero_le _, by simp [capV, maxLen], fun _ => rfl⟩
  | osl cs' r1 r2 r3 r4 r5 r6 r7 => exact ⟨rfl, r3, r4, fun q => by cases q⟩
 | opa k r =>
  cases h with
  | opa cs' r1 r2 r3 r4 => exact ⟨_, hβ, rfl⟩
 | _ => exact (h.free (fun _ _ _ q => by cases q) (fun _ _ q => by cases q) none).rc
theorem Rep.ro {g : Gh} {w : World} {i : Nat} {c : D} {o : Ob} {u : Value} (h : Rep g.S g.up w (some (.root i)) c u) (hc : unfD c = some o) (hβ : g.β i = blkV u) (hκ : ∀ e k rows, c = .osl e k rows -> g.κ i = capV u) : RO g w i o := by
 cases c with
 | osl e k rows =>
  injection hc with hc
  subst hc
  show Rep _ _ _ _ _ _
  rw [hβ, hκ e k rows rfl]
  cases h with
  | osl0 => exact .osl0
  | osl cs r1 r2 r3 r4 r5 r6 r7 => exact .osl cs r1 r2 r3 r4 r5 r6 r7
 | opa k r =>
  injection hc with hc
  subst hc
  cases h with
  | opa cs' r1 r2 r3 r4 => exact ⟨_, cs', _, hβ, r1, r2, r3, fun j' d' hj' => (r4 j' d' hj').rc⟩
 | _ => cases hc
theorem ij_ne {k i j i0 c0 : Nat} (hj : j < k) (hc : c0 < k) (h : ¬ (i = i0 /\ j = c0)) : i * k + j ≠ i0 * k + c0 := by
 intro e
 rcases Nat.lt_trichotomy i i0 with q | q | q
 ·have : (i + 1) * k <= i0 * k := Nat.mul_le_mul_right _ q
  rw [Nat.add_mul, Nat.one_mul] at this; omega
 ·subst q; exact h ⟨rfl, by omega⟩
 ·have : (i0 + 1) * k <= i * k := Nat.mul_le_mul_right _ q
  rw [Nat.add_mul, Nat.one_mul] at this; omega
def St.opE (σ : St) (id e k : Nat) (rows : List (List D)) (i c nm : Nat) (d : D) (o : Ob) : St := ((σ.sc (pOut [nm]) (pOut [nm, id])).setB id (.hol e k rows i c (refC nm d))).setB nm o
theorem Rel.openE {x : Cx} {g : Gh} {σ : St} {a : Act} {w : World} (h : Rel x g σ a w) {id e k : Nat} {rows : List (List D)} (hb : σ.b id = some (.arr e k rows)) (i c nm : Nat) {row : List D} {d : D} {o : Ob} (hi : rows[i]? = some row) (hd : row[c]? = some d) (hu : unfD d = some o) (hne : nm ≠ id) (hnP : isP nm = false) : ∃ g', Rel x g' (σ.opE id e k rows i c nm d o) a w := by
 have hR0 : Rep g.S g.up w (some (.root id)) (.osl e k rows) (.slice ((g.β id).map fun b => ⟨b, 0, none⟩) rows.length (g.κ id)) := h.ob id _ hb
 generalize hvv : Value.slice ((g.β id).map fun b => (⟨b, 0, none⟩ : Addr)) rows.length (g.κ id) = vv at hR0
 cases hR0 with
 | osl0 => simp at hi
 | @osl _ _ _ _ b co cs q1 q2 q3 q4 q5 q6 q7 =>
  injection hvv with hv1 _ hv2
  have hβ : g.β id = some b := by
   cases hq : g.β id with
   | none => rw [hq] at hv1; cases hv1
   | some b' => rw [hq] at hv1; injection hv1 with hv1; injection hv1 with hv1; rw [hv1]
  subst hv2
  have hck : c < k := by rw [<- q6 i row hi]; exact (List.getElem?_eq_some_iff.1 hd).1
  let π : Pos -> Pos := fun p => match p with
   | .cell b' o => if b' = b /\ o = i * k + c then .root nm else .cell b' o
   | p => p
  let g' : Gh := ⟨fun j => if j = nm then blkV (cs.getD (i * k + c) undef) else g.β j, fun j => if j = nm then capV (cs.getD (i * k + c) undef) else g.κ j, fun b' => (g.up b').map π, g.S⟩
  have ev : Ev (fun p => p ≠ .root id /\ p ≠ .root nm) π (pOut [nm]) (pOut [nm, id]) g g' w w := by
   refine ⟨⟨fun b' hb' => ⟨hb', rfl⟩, fun b' p hp _ => ⟨by show (g.up b').map π = _; rw [hp]; rfl, rfl⟩, fun b' p o hp ho => ⟨by simp, ?_⟩⟩, fun j hj => ?_, fun j hj => ?_⟩
   ·show (if b' = b /\ o = i * k + c then _ else _) = _
    rw [if_neg]
    rintro ⟨rfl, -⟩
    rw [q1] at hp; injection hp with hp
    exact ho.1 hp.symm
   ·have := xt hj nm (by simp)
    exact ⟨by show (if _ then _ else _) = _; rw [if_neg this], by show (if _ then _ else _) = _; rw [if_neg this]⟩
   ·have h1 := xt hj nm (by simp)
    have h2 := xt hj id (by simp)
    exact ⟨by simp [pOut, h1], ⟨fun q => by injection q with q; exact h2 q, fun q => by injection q with q; exact h1 q⟩, rfl⟩
  have hR := h.ev ev (Below.refl _ _) (fun b _ _ => rfl) (fun b _ hs => .inl hs) h.new (fun b' p hp => by
   obtain ⟨p', hp', -⟩ := Option.map_eq_some_iff.1 (show (g.up b').map π = some p from hp)
   exact h.own b' p' hp')
  have hnm : g'.β nm = blkV (cs.getD (i * k + c) undef) /\ g'.κ nm = capV (cs.getD (i * k + c) undef) := ⟨if_pos rfl, if_pos rfl⟩
  have hid : g'.β id = some b /\ g'.κ id = g.κ id := ⟨(if_neg (fun q => hne q.symm)).trans hβ, if_neg (fun q => hne q.symm)⟩
  have hmv := Rep.move ev.toMv (q7 i c row d hi hd) (fun z hz => by injection hz with hz; subst hz; simp)
  have e1 : π (.cell b (i * k + c)) = .root nm := if_pos ⟨rfl, rfl⟩
  rw [Option.map_some, e1] at hmv
  refine ⟨g', (hR.setB (id := id) (o := .hol e k rows i c (refC nm d)) ⟨b, cs, hid.1, ?_, q2, by rw [hid.2]; exact q3, by rw [hid.2]; exact q4, by rw [hid.2]; exact q5, q6, (List.getElem?_eq_some_iff.1 hi).1, hck, (hmv.ref hnm.1 hnm.2).any _, fun i' j row' d' r1 r2 r3 => ?_⟩ (fun hp => by rw [hid.1, hid.2]; have := h.par id _ hb hp; rw [hβ] at this; exact this)).setB (id := nm) (hmv.ro hu hnm.1 (fun _ _ _ _ => hnm.2)) (fun hp => by rw [hnP] at hp; cases hp)⟩
  ·show (g.up b).map π = _
   rw [q1]; rfl
  ·have hjk : j < k := by rw [<- q6 i' row' r1]; exact (List.getElem?_eq_some_iff.1 r2).1
   have := Rep.move ev.toMv (q7 i' j row' d' r1 r2) (fun z hz => by injection hz with hz; subst hz; simp)
   have e2 : π (.cell b (i' * k + j)) = .cell b (i' * k + j) := if_neg (fun q => ij_ne hjk hck r3 q.2)
   rwa [Option.map_some, e2] at this
theorem Rel.closeE {x : Cx} {g : Gh} {σ : St} {a : Act} {w : World} (h : Rel x g σ a w) {id e k : Nat} {rows : List (List D)} {i c : Nat} {r d : D} {ob : Prop} {nm : Nat} (hb : σ.b id = some (.hol e k rows i c r)) (hf : fdC σ r = some (ob, d)) (ho : ob) (hr : idC r = some nm) (hne : nm ≠ id) :
  ∃ g', Rel x g' ((σ.sc (pOut [nm]) (pOut [nm])).setB id (.arr e k (rows.set i ((rows.getD i []).set c d)))) a w := by
 obtain ⟨b, cs, h1, h2, h3, h4, h5, h6, h7, h8, h9, h10, h11⟩ := h.ob id _ hb
 let π : Pos -> Pos := fun p => match p with
  | .root m => if m = nm then .cell b (i * k + c) else .root m
  | p => p
 have ev : Ev (fun _ => True) π (pOut [nm]) (pOut [nm]) g ⟨g.β, g.κ, fun c => (g.up c).map π, g.S⟩ w w := by
  refine ⟨⟨fun c hc => ⟨hc, rfl⟩, fun c p hc _ => ⟨by show (g.up c).map π = _; rw [hc]; rfl, rfl⟩, fun c p o _ _ => ⟨trivial, rfl⟩⟩, fun m _ => ⟨rfl, rfl⟩, fun m hm => ⟨hm, trivial, ?_⟩⟩
  exact if_neg (xt hm nm (by simp))
 have hR := h.ev ev (Below.refl _ _) (fun b _ _ => rfl) (fun b _ hs => .inl hs) h.new (fun c p hc => by
  obtain ⟨p', hp', -⟩ := Option.map_eq_some_iff.1 (show (g.up c).map π = some p from hc)
  exact h.own c p' hp')
 have hg : rows[i]? = some rows[i] := List.getElem?_eq_getElem h8
 have hrl := h7 i _ hg
 refine ⟨_, hR.setB (id := id) ?_ (h.par id _ hb)⟩
 show Rep _ _ _ _ _ _
 rw [h1, Option.map_some]
 have key := Rep.osl (S := g.S) (up := fun c => (g.up c).map π) (w := w) (p := .root id) (e := e) (k := k) (rows := rows.set i ((rows.getD i []).set c d)) (b := b) (c := g.κ id) cs (by
  show (g.up b).map π = _
  rw [h2]
  exact congrArg some (if_neg (fun q => hne q.symm))) h3 (by simpa using h4) h5 h6 (fun i' row hi' => ?_) (fun i' j row y hi' hj => ?_)
 ·exact key
 ·rw [List.getElem?_set] at hi'
  split at hi'
  ·rename_i e'; subst e'
   injection hi' with hi'
   subst hi'
   rw [List.length_set, xZ hg, hrl]
  ·exact h7 i' row hi'
 ·have keep : ∀ row0, rows[i']? = some row0 -> row0[j]? = some y -> ¬ (i' = i /\ j = c) -> Rep g.S (fun c => (g.up c).map π) w (some (.cell b (i' * k + j))) y (cs.getD (i' * k + j) undef) := fun row0 r1 r2 r3 => Rep.move ev.toMv (h11 i' j row0 y r1 r2 r3) (fun _ _ => trivial)
  rw [List.getElem?_set] at hi'
  split at hi'
  ·rename_i e'; subst e'
   injection hi' with hi'
   subst hi'
   rw [xZ hg, List.getElem?_set] at hj
   split at hj
   ·rename_i e'; subst e'
    have hcl : c < rows[i].length := by rw [hrl]; exact h9
    first
     | rw [if_pos hcl] at hj
     | skip
    injection hj with hj
    subst hj
    rcases Xp h hf ho h10 with ⟨q1, -⟩ | ⟨m, q1, q2⟩
    ·rw [hr] at q1; cases q1
    ·rw [hr] at q1; injection q1 with q1; subst q1
     have := Rep.move ev.toMv q2 (fun _ _ => trivial)
     have e2 : π (.root nm) = .cell b (i * k + c) := if_pos rfl
     rwa [Option.map_some, e2] at this
   ·rename_i hc
    exact keep _ hg hj (fun q => hc q.2.symm)
  ·rename_i hne'
   exact keep row hi' hj (fun q => hne' q.1.symm)
def RA (g : Gh) (w : World) (j : Nat) : D -> Value -> Prop
 | .ag xs, v => ∃ us : List Value, v = .agg us.toArray /\ us.length = xs.length /\ ∀ (l : Nat) (x : D) (u : Value), xs[l]? = some x -> us[l]? = some u -> Rep g.S g.up w (some (.par j l)) x u
 | d, v => Rep g.S g.up w (some (.par j 0)) d v
def RU (g : Gh) (w : World) (j : Nat) : D -> Value -> Prop
 | .un, _ => True
 | .ag xs, v => ∃ us : List Value, v = .agg us.toArray /\ us.length = xs.length /\ ∀ (l : Nat) (x : D) (u : Value), xs[l]? = some x -> us[l]? = some u -> x = .un \/ Rep g.S g.up w (some (.par j l)) x u
 | d, v => Rep g.S g.up w (some (.par j 0)) d v
def RN (g : Gh) (w : World) (m : Nat) : D -> Value -> Prop
 | .un, _ => True
 | .ag xs, v => ∃ us : List Value, v = .agg us.toArray /\ us.length = xs.length /\ ∀ (l : Nat) (x : D) (u : Value), xs[l]? = some x -> us[l]? = some u -> Rep g.S g.up w (some (.ans m l)) x u
 | d, v => Rep g.S g.up w (some (.ans m 0)) d v
def RNs (g : Gh) (w : World) : D -> Value -> Prop
 | .tup xs, v => ∃ us : List Value, v = .tuple us.toArray /\ us.length = xs.length /\ ∀ (m : Nat) (x : D) (u : Value), xs[m]? = some x -> us[m]? = some u -> RN g w m x u
 | d, v => RN g w 0 d v
structure FCon (P : Program) (f : FuncId) (args : List D) (Rs : D -> List D -> Prop) : Prop where
 ent : ∀ vs w, (callFunc f vs).run P w = .ok (.enter f vs) w
 run : ∀ (w : World) (g : Gh) (vs : List Value), (∀ b, g.S b -> b < w.heap.size) -> (∀ b p, g.up b = some p -> b < w.heap.size /\ ¬ g.S b) -> vs.length = args.length -> (∀ (j : Nat) (d : D) (u : Value), args[j]? = some d -> vs[j]? = some u -> RA g w j d u) ->
  Calls P f vs.toArray w (fun e w' => ∃ v g' r outs, e = .returned v /\ Below 0 w w' /\ (∀ b, b < w.heap.size -> g.up b = none -> w'.heap[b]? = w.heap[b]?) /\ (∀ b, g.S b -> Gh.S g' b) /\ (∀ b, b < w.heap.size -> g'.S b -> g.S b \/ g.up b ≠ none) /\ (∀ b, g'.S b -> b < w'.heap.size) /\
   (∀ b p, g'.up b = some p -> b < w'.heap.size /\ (b < w.heap.size -> g.up b ≠ none) /\ ¬ g'.S b) /\ Rs r outs /\ RNs g' w' r v /\ ∀ (j : Nat) (d : D) (u : Value), outs[j]? = some d -> vs[j]? = some u -> RU g' w' j d u)
theorem FCon.mono {P : Program} {f : FuncId} {args : List D} {Rs Rs' : D -> List D -> Prop} (h : FCon P f args Rs) (hr : ∀ r o, Rs r o -> Rs' r o) : FCon P f args Rs' := by
 refine ⟨h.ent, fun w g vs h1 h2 h3 h4 => (h.run w g vs h1 h2 h3 h4).mono ?_⟩
 rintro e w' ⟨v, g', r, o, a1, a2, a3, a4, a5, a6, a7, a8, a9⟩
 exact ⟨v, g', r, o, a1, a2, a3, a4, a5, a6, a7, hr r o a8, a9⟩
inductive Pure : D -> Prop where
 | s (v : Value) : Pure (.s v)
 | nil : Pure .nil
 | np : Pure .np
 | un : Pure .un
 | sl0 {k : Nat} : Pure (.sl k [])
 | osl {e k : Nat} {rows : List (List D)} : (∀ (i j : Nat) (row : List D) (d : D), rows[i]? = some row -> row[j]? = some d -> Pure d) -> Pure (.osl e k rows)
 | opa {k : Nat} {row : List D} : (∀ (j : Nat) (d : D), row[j]? = some d -> Pure d) -> Pure (.opa k row)
 | ag {xs : List D} : (∀ (j : Nat) (d : D), xs[j]? = some d -> Pure d) -> Pure (.ag xs)
 | tup {xs : List D} : (∀ (j : Nat) (d : D), xs[j]? = some d -> Pure d) -> Pure (.tup xs)
theorem Rep.pmove {S S' : Nat -> Prop} {up up' : Nat -> Option Pos} {w w' : World} {π : Pos -> Pos} (ow : ∀ b p, up b = some p -> up' b = some (π p) /\ w'.heap[b]? = w.heap[b]?) (st : ∀ b o, π (.cell b o) = .cell b o) {p : Option Pos} {d : D} {v : Value} (h : Rep S up w p d v) (hs : (∀ b, S b -> S' b /\ w'.heap[b]? = w.heap[b]?) \/ Pure d) : Rep S' up' w' (p.map π) d v := by
 rcases hs with hs | hp
 ·have m : Mv (fun _ => True) π ⟨fun _ => none, fun _ => 0, up, S⟩ ⟨fun _ => none, fun _ => 0, up', S'⟩ w w' := ⟨hs, fun b p hb _ => ow b p hb, fun b p o _ _ => ⟨trivial, st b o⟩⟩
  exact Rep.move (g := ⟨fun _ => none, fun _ => 0, up, S⟩) m h (fun _ _ => trivial)
 ·induction h with
  | s h => exact .s h
  | nil => exact .nil
  | np => exact .np
  | sl0 h => exact .sl0 h
  | @sl p k rows b off c us h1 h2 h3 h4 h5 ih =>
   cases hp with
   | sl0 => exact .sl us h1 h2 h3 (fun i j row d r1 r2 => by simp at r1) (fun i j row d r1 r2 => by simp at r1)
  | pt us h1 _ ih => cases hp
  | fn us _ ih => cases hp
  | osl0 => exact .osl0
  | @osl p e k rows b c cs h1 h2 h3 h4 h5 h6 _ ih =>
   cases hp with
   | osl hp =>
    obtain ⟨m1, m2⟩ := ow b p h1
    refine .osl cs m1 (m2.trans h2) h3 h4 h5 h6 fun i j row d r1 r2 => ?_
    have := ih i j row d r1 r2 (hp i j row d r1 r2)
    rwa [Option.map_some, st] at this
  | @opa p k row b ty cs h1 h2 h3 _ ih =>
   cases hp with
   | opa hp =>
    obtain ⟨m1, m2⟩ := ow b p h1
    refine .opa cs m1 (m2.trans h2) h3 fun j d r => ?_
    have := ih j d r (hp j d r)
    rwa [Option.map_some, st] at this
theorem Und.disj {up : Nat -> Option Pos} {R R' : Nat -> Prop} {b : Nat} (h : Und up R b) (h' : Und up R' b) : ∃ i, R i /\ R' i := by
 induction h with
 | @root b i h1 h2 =>
  cases h' with
  | @root _ i' h3 h4 => rw [h1] at h3; injection h3 with h3; injection h3 with h3; subst h3; exact ⟨i, h2, h4⟩
  | cell h3 _ => rw [h1] at h3; injection h3 with h3; cases h3
 | @cell b b' o h1 h2 ih =>
  cases h' with
  | root h3 _ => rw [h1] at h3; injection h3 with h3; cases h3
  | @cell _ b'' o' h3 h4 => rw [h1] at h3; injection h3 with h3; injection h3 with h3 h5; subst h3; exact ih h4
abbrev Gv := Nat × Nat × Nat
def gvF : List Gv -> Nat -> Option (Nat × Nat)
 | [], _ => none
 | (i, j, l) :: r, n => if n = i then some (j, l) else gvF r n
def gvB : List Gv -> Nat -> Nat -> Option Nat
 | [], _, _ => none
 | (i, j, l) :: r, j', l' => if j' = j /\ l' = l then some i else gvB r j' l'
def gvN (gs : List Gv) : List Nat := gs.map fun p => p.1
def gvK (gs : List Gv) : List Nat := gs.map fun p => 1000 * p.2.1 + p.2.2
theorem gvF_mem {gs : List Gv} {n j l : Nat} (h : gvF gs n = some (j, l)) : (n, j, l) ∈ gs := by
 induction gs with
 | nil => cases h
 | cons p r ih =>
  obtain ⟨i, j', l'⟩ := p
  simp only [gvF] at h
  split at h
  ·rename_i e; injection h with h; injection h with h1 h2; subst e h1 h2; simp
  ·exact List.mem_cons_of_mem _ (ih h)
theorem gvF_of {gs : List Gv} (hn : nodB (gvN gs) = true) {n j l : Nat} (h : (n, j, l) ∈ gs) : gvF gs n = some (j, l) := by
 induction gs with
 | nil => cases h
 | cons p r ih =>
  obtain ⟨i, j', l'⟩ := p
  simp only [gvN, List.map_cons, nodB, Bool.and_eq_true] at hn
  simp only [gvF]
  rcases List.mem_cons.1 h with e | h
  ·injection e with e1 e2; injection e2 with e2 e3; subst e1 e2 e3; rw [if_pos rfl]
  ·rw [if_neg (fun e => xt hn.1 n (List.mem_map.2 ⟨_, h, rfl⟩) e.symm)]
   exact ih hn.2 h
theorem gvB_of {gs : List Gv} (hn : nodB (gvK gs) = true) {n j l : Nat} (h : (n, j, l) ∈ gs) : gvB gs j l = some n := by
 induction gs with
 | nil => cases h
 | cons p r ih =>
  obtain ⟨i, j', l'⟩ := p
  simp only [gvK, List.map_cons, nodB, Bool.and_eq_true] at hn
  simp only [gvB]
  rcases List.mem_cons.1 h with e | h2
  ·injection e with e1 e2; injection e2 with e2 e3; subst e1 e2 e3; rw [if_pos ⟨rfl, rfl⟩]
  ·rw [if_neg (fun e => by
    obtain ⟨rfl, rfl⟩ := e
    exact xt hn.1 (1000 * j + l) (List.mem_map.2 ⟨(n, j, l), h2, rfl⟩) rfl)]
   exact ih hn.2 h2
def pinG (gs : List Gv) : Pos -> Pos
 | .root i => match gvF gs i with
  | some (j, l) => .par j l
  | none => .root i
 | p => p
def ansN (d m l : Nat) : Nat := 1000 * (20 * m + l + 1) + d
def poutG (gs : List Gv) (d : Nat) : Pos -> Pos
 | .par j l => match gvB gs j l with
  | some i => .root i
  | none => .par j l
 | .ans m l => .root (ansN d m l)
 | p => p
noncomputable def calG (g : Gh) (gs : List Gv) (bs : List Nat) : Gh := by
 classical
 exact ⟨fun _ => none, fun _ => 0, fun b => if Und g.up (fun i => i ∈ gvN gs) b then (g.up b).map (pinG gs) else none, fun b => g.S b \/ Und g.up (fun i => i ∈ bs) b⟩
section
variable {x : Cx} {g : Gh} {σ : St} {a : Act} {w : World}
theorem calG_in {gs : List Gv} {bs : List Nat} {b : Nat} (h : Und g.up (fun i => i ∈ gvN gs) b) : (calG g gs bs).up b = (g.up b).map (pinG gs) := by
 classical
 show (if _ then _ else _) = _
 rw [if_pos h]
theorem wq {gs : List Gv} {bs : List Nat} {b : Nat} : (calG g gs bs).up b ≠ none ↔ Und g.up (fun i => i ∈ gvN gs) b := by
 classical
 constructor
 ·intro h
  have h : (if Und g.up (fun i => i ∈ gvN gs) b then (g.up b).map (pinG gs) else none) ≠ none := h
  by_cases q : Und g.up (fun i => i ∈ gvN gs) b
  ·exact q
  ·rw [if_neg q] at h; exact absurd rfl h
 ·intro h
  rw [calG_in h]
  cases h with
  | root h' _ => rw [h']; simp
  | cell h' _ => rw [h']; simp
theorem Rel.und (h : Rel x g σ a w) {R : Nat -> Prop} {b : Nat} (q : Und g.up R b) : b < w.heap.size /\ (b < x.w0.heap.size -> x.G b) /\ ¬ g.S b := by
 cases q with
 | root h' _ => exact h.own b _ h'
 | cell h' _ => exact h.own b _ h'
theorem Rel.cal1 (h : Rel x g σ a w) (gs : List Gv) (bs : List Nat) : ∀ b, (calG g gs bs).S b -> b < w.heap.size := fun b q => q.elim (h.new b) (fun q => (h.und q).1)
theorem Rel.cal2 (h : Rel x g σ a w) {gs : List Gv} {bs : List Nat} (hd : ∀ b ∈ bs, b ∉ gvN gs) : ∀ b p, (calG g gs bs).up b = some p -> b < w.heap.size /\ ¬ (calG g gs bs).S b := fun b p q => by
 have hu := (wq (g := g) (gs := gs) (bs := bs) (b := b)).1 (by rw [q]; simp)
 refine ⟨(h.und hu).1, fun r => r.elim (h.und hu).2.2 fun r => ?_⟩
 obtain ⟨i, i1, i2⟩ := hu.disj r
 exact hd i i2 i1
theorem Rel.calCell (h : Rel x g σ a w) {gs : List Gv} {bs : List Nat} {c d : D} {ob : Prop} {u : Value} (hf : fdC σ c = some (ob, d)) (ho : ob) (hu : RC g w none c u) :
  (idC c = none -> ∀ p, Rep (calG g gs bs).S (calG g gs bs).up w p d u) /\ (∀ i j l, idC c = some i -> (i, j, l) ∈ gs -> nodB (gvN gs) = true -> Rep (calG g gs bs).S (calG g gs bs).up w (some (.par j l)) d u) /\ (∀ i, idC c = some i -> i ∈ bs -> ∀ p, Rep (calG g gs bs).S (calG g gs bs).up w p (frz d) u) := by
 rcases Xp h hf ho hu with ⟨q1, q2⟩ | ⟨i, q1, q2⟩
 ·refine ⟨fun _ p => ?_, fun i j l q => (by rw [q1] at q; cases q), fun i q => (by rw [q1] at q; cases q)⟩
  have m : Mv (fun _ => False) (fun p => p) g (calG g gs bs) w w := ⟨fun b hb => ⟨.inl hb, rfl⟩, fun b p _ q => q.elim, fun b p o _ q => q.elim⟩
  exact (Rep.move m q2 (fun q hq => by cases hq)).any p
 ·refine ⟨fun q => (by rw [q1] at q; cases q), fun i' j l q hm hn => ?_, fun i' q hm p => ?_⟩
  ·rw [q1] at q; injection q with q; subst q
   have m : Mv (PU g.up (fun i => i ∈ gvN gs)) (pinG gs) g (calG g gs bs) w w := by
    refine ⟨fun b hb => ⟨.inl hb, rfl⟩, fun b p hb hp => ⟨?_, rfl⟩, fun b p o hb hp => ⟨(wL hb).2 hp, rfl⟩⟩
    rw [calG_in ((wL hb).2 hp), hb]; rfl
   have := Rep.move m q2 (fun q hq => by injection hq with hq; subst hq; exact List.mem_map.2 ⟨_, hm, rfl⟩)
   simp only [Option.map_some, pinG, gvF_of hn hm] at this
   exact this
  ·rw [q1] at q; injection q with q; subst q
   exact (q2.froz (S' := (calG g gs bs).S) (up' := (calG g gs bs).up) (R := fun i => i ∈ bs) (fun b => .inl) (fun b => .inr) (fun q hq => by injection hq with hq; subst hq; exact hm)).any p
end
def xx (v : Value) (l : Nat) : Value := match v with
 | .agg c => c.getD l undef
 | v => v
def uZ (v : Value) (m : Nat) : Value := match v with
 | .tuple c => c.getD m undef
 | v => v
def ye (d : D) (l : Nat) : Option D := match d with
 | .ag xs => xs[l]?
 | d => if l = 0 then some d else none
def uY (r : D) (m : Nat) : Option D := match r with
 | .tup xs => xs[m]?
 | d => if m = 0 then some d else none
def ansB (d i : Nat) : Bool := decide (i % 1000 = d) && (decide (1000 <= i) && decide (i < 900000))
def ansO (d : Nat) (r : D) (i : Nat) : Option Ob := if ansB d i = true then (uY r ((i / 1000 - 1) / 20)).bind fun c => (ye c ((i / 1000 - 1) % 20)).bind unfD else none
def outO (outs : List D) : List Gv -> Nat -> Option Ob
 | [], _ => none
 | (n, j, l) :: r, i => if i = n then (outs[j]?).bind fun c => (ye c l).bind unfD else outO outs r i
def inG : List Gv -> Nat -> Bool
 | [], _ => false
 | (n, _, _) :: r, i => (i == n) || inG r i
def qCal (d : Nat) (gs : List Gv) (outs : List D) (i : Nat) : Bool := !ansB d i && !(inG gs i && (outO outs gs i).isNone)
def St.cal (σ : St) (d : Nat) (gs : List Gv) (r : D) (outs : List D) : St :=
 ⟨fun i => scT (qCal d gs outs) (σ.t i), fun i => match ansO d r i with
  | some o => some o
  | none => match outO outs gs i with
   | some o => if ansB d i = true then none else some o
   | none => if ansB d i = true \/ inG gs i = true then none else (σ.b i).map (scO (qCal d gs outs))⟩
def shC (d m l : Nat) : D -> D
 | .osl _ k rows => .bs (ansN d m l) k rows.length
 | .opa k _ => .bx (ansN d m l) k
 | c => c
def shL (d m : Nat) : Nat -> List D -> List D
 | _, [] => []
 | l, c :: r => shC d m l c :: shL d m (l + 1) r
def shE (d m : Nat) : D -> D
 | .ag xs => .ag (shL d m 0 xs)
 | c => shC d m 0 c
def shM (d : Nat) : Nat -> List D -> List D
 | _, [] => []
 | m, c :: r => shE d m c :: shM d (m + 1) r
def shA (d : Nat) : D -> D
 | .tup xs => .tup (shM d 0 xs)
 | c => shE d 0 c
def lenE : D -> Bool
 | .ag xs => decide (xs.length <= 20)
 | .tup _ => false
 | .mb _ _ => false
 | _ => true
def lenT : D -> Bool
 | .tup xs => decide (xs.length <= 40) && xs.all lenE
 | c => lenE c
theorem inG_iff {gs : List Gv} {i : Nat} : inG gs i = true ↔ i ∈ gvN gs := by
 induction gs with
 | nil => simp [inG, gvN]
 | cons p r ih => obtain ⟨n, j, l⟩ := p; simp [inG, gvN] at ih ⊢; rw [ih]
theorem U0 {outs : List D} {gs : List Gv} {i : Nat} {o : Ob} (h : outO outs gs i = some o) : ∃ j l c d, (i, j, l) ∈ gs /\ outs[j]? = some c /\ ye c l = some d /\ unfD d = some o := by
 induction gs with
 | nil => cases h
 | cons p r ih =>
  obtain ⟨n, j, l⟩ := p
  simp only [outO] at h
  split at h
  ·rename_i e
   subst e
   obtain ⟨c, h1, h2⟩ := Option.bind_eq_some_iff.1 h
   obtain ⟨d, h3, h4⟩ := Option.bind_eq_some_iff.1 h2
   exact ⟨j, l, c, d, by simp, h1, h3, h4⟩
  ·obtain ⟨j', l', c, d, h1, h2⟩ := ih h
   exact ⟨j', l', c, d, List.mem_cons_of_mem _ h1, h2⟩
theorem shL_at (d m : Nat) : ∀ (l : List D) (q j : Nat), (shL d m q l)[j]? = (l[j]?).map (shC d m (q + j))
 | [], q, j => by simp [shL]
 | c :: l, q, 0 => by simp [shL]
 | c :: l, q, j + 1 => by
  rw [shL, List.getElem?_cons_succ, shL_at d m l (q + 1) j, List.getElem?_cons_succ]
  congr 2; omega
theorem shM_at (d : Nat) : ∀ (l : List D) (q j : Nat), (shM d q l)[j]? = (l[j]?).map (shE d (q + j))
 | [], q, j => by simp [shM]
 | c :: l, q, 0 => by simp [shM]
 | c :: l, q, j + 1 => by
  rw [shM, List.getElem?_cons_succ, shM_at d l (q + 1) j, List.getElem?_cons_succ]
  congr 2; omega
theorem shL_len (d m : Nat) (l : List D) (q : Nat) : (shL d m q l).length = l.length := by
 induction l generalizing q with
 | nil => rfl
 | cons c l ih => simp [shL, ih]
theorem shM_len (d : Nat) (l : List D) (q : Nat) : (shM d q l).length = l.length := by
 induction l generalizing q with
 | nil => rfl
 | cons c l ih => simp [shM, ih]
theorem zg {v : Value} (h : v.oneCell' = true) (l : Nat) : xx v l = v := by cases v <;> first | rfl | cases h
theorem UA {v : Value} (h : v.oneCell' = true) (m : Nat) : uZ v m = v := by cases v <;> first | rfl | cases h
theorem vg {us : List Value} {m : Nat} {u : Value} (h : us[m]? = some u) : us.toArray.getD m undef = u := Xk (by simpa using h)
theorem RN_at {g : Gh} {w : World} {m : Nat} {x : D} {u : Value} (h : RN g w m x u) {l : Nat} {c : D} (hc : ye x l = some c) : c = .un \/ Rep g.S g.up w (some (.ans m l)) c (xx u l) := by
 have one : ∀ d : D, Rep g.S g.up w (some (.ans m 0)) d u -> (if l = 0 then some d else none) = some c -> c = .un \/ Rep g.S g.up w (some (.ans m l)) c (xx u l) := by
  intro d h' hc'
  split at hc'
  ·rename_i e; subst e; injection hc' with hc'; subst hc'
   rw [zg h'.one]; exact .inr h'
  ·cases hc'
 cases x with
 | un => simp only [ye] at hc; split at hc; (injection hc with hc; exact .inl hc.symm); cases hc
 | ag xs =>
  obtain ⟨us, rfl, h1, h2⟩ := h
  have hl : l < us.length := by rw [h1]; exact (List.getElem?_eq_some_iff.1 hc).1
  have hu := List.getElem?_eq_getElem hl
  have : xx (.agg us.toArray) l = us[l] := vg hu
  rw [this]
  exact .inr (h2 l c _ hc hu)
 | _ => simp only [RN] at h; exact one _ h hc
theorem RNs_at {g : Gh} {w : World} {r : D} {v : Value} (h : RNs g w r v) {m l : Nat} {x c : D} (hx : uY r m = some x) (hc : ye x l = some c) : c = .un \/ Rep g.S g.up w (some (.ans m l)) c (xx (uZ v m) l) := by
 have one : ∀ d : D, RN g w 0 d v -> (if m = 0 then some d else none) = some x -> c = .un \/ Rep g.S g.up w (some (.ans m l)) c (xx (uZ v m) l) := by
  intro d h' hx'
  split at hx'
  ·rename_i e; subst e; injection hx' with hx'; subst hx'
   have q := RN_at h' hc
   cases d with
   | un => simp only [ye] at hc; split at hc; (injection hc with hc; exact .inl hc.symm); cases hc
   | ag xs => obtain ⟨us, rfl, h1, h2⟩ := h'; exact q
   | tup _ => simp only [RN] at h'; cases h'
   | mb _ _ => simp only [RN] at h'; cases h'
   | bx _ _ => simp only [RN] at h'; cases h'
   | el _ _ _ _ => simp only [RN] at h'; cases h'
   | bs _ _ _ => simp only [RN] at h'; cases h'
   | _ => simp only [RN] at h'; rw [UA h'.one]; exact q
  ·cases hx'
 cases r with
 | tup xs =>
  obtain ⟨us, rfl, h1, h2⟩ := h
  have hl : m < us.length := by rw [h1]; exact (List.getElem?_eq_some_iff.1 hx).1
  have hu := List.getElem?_eq_getElem hl
  have : uZ (.tuple us.toArray) m = us[m] := vg hu
  rw [this]
  exact RN_at (h2 m x _ hx hu) hc
 | _ => simp only [RNs] at h; exact one _ h hx
theorem RU_at {g : Gh} {w : World} {j : Nat} {x : D} {u : Value} (h : RU g w j x u) {l : Nat} {c : D} (hc : ye x l = some c) : c = .un \/ Rep g.S g.up w (some (.par j l)) c (xx u l) := by
 have one : ∀ d : D, Rep g.S g.up w (some (.par j 0)) d u -> (if l = 0 then some d else none) = some c -> c = .un \/ Rep g.S g.up w (some (.par j l)) c (xx u l) := by
  intro d h' hc'
  split at hc'
  ·rename_i e; subst e; injection hc' with hc'; subst hc'
   rw [zg h'.one]; exact .inr h'
  ·cases hc'
 cases x with
 | un => simp only [ye] at hc; split at hc; (injection hc with hc; exact .inl hc.symm); cases hc
 | ag xs =>
  obtain ⟨us, rfl, h1, h2⟩ := h
  have hl : l < us.length := by rw [h1]; exact (List.getElem?_eq_some_iff.1 hc).1
  have hu := List.getElem?_eq_getElem hl
  have : xx (.agg us.toArray) l = us[l] := vg hu
  rw [this]
  exact h2 l c _ hc hu
 | _ => simp only [RU] at h; exact one _ h hc
theorem Pure.cell {x c : D} (h : Pure x) {l : Nat} (hc : ye x l = some c) : Pure c := by
 cases x with
 | ag xs => cases h with | ag h => exact h l c hc
 | _ => simp only [ye] at hc; split at hc; (injection hc with hc; subst hc; exact h); cases hc
theorem Pure.comp {x c : D} (h : Pure x) {l : Nat} (hc : uY x l = some c) : Pure c := by
 cases x with
 | tup xs => cases h with | tup h => exact h l c hc
 | _ => simp only [uY] at hc; split at hc; (injection hc with hc; subst hc; exact h); cases hc
theorem Und.some {up : Nat -> Option Pos} {R : Nat -> Prop} {b : Nat} (h : Und up R b) : ∃ i, R i := by
 induction h with
 | root _ h => exact ⟨_, h⟩
 | cell _ _ ih => exact ih
theorem ansB_ok {d m l : Nat} (hd : d < 1000) (hm : m < 40) (hl : l < 20) : ansB d (ansN d m l) = true /\ ((ansN d m l) / 1000 - 1) / 20 = m /\ ((ansN d m l) / 1000 - 1) % 20 = l := by
 unfold ansB ansN
 have h1 : (1000 * (20 * m + l + 1) + d) / 1000 = 20 * m + l + 1 := by omega
 rw [h1]
 refine ⟨?_, by omega, by omega⟩
 simp only [Bool.and_eq_true, decide_eq_true_eq]
 omega
theorem VE {d i : Nat} (h : ansB d i = true) : ansN d ((i / 1000 - 1) / 20) ((i / 1000 - 1) % 20) = i /\ isP i = false := by
 unfold ansB at h
 simp only [Bool.and_eq_true, decide_eq_true_eq] at h
 unfold ansN isP
 refine ⟨by omega, ?_⟩
 simp only [Bool.and_eq_false_iff, decide_eq_false_iff_not]
 omega
theorem Rep.shC {g : Gh} {w : World} {d m l : Nat} {c : D} {u : Value} (h : Rep g.S g.up w (some (.root (ansN d m l))) c u) (hβ : g.β (ansN d m l) = blkV u) (hκ : g.κ (ansN d m l) = capV u) : RC g w none (shC d m l c) u := by
 cases c with
 | osl e k rows =>
  show u = .slice ((g.β (ansN d m l)).map _) _ _ /\ _
  rw [hβ, hκ]
  cases h with
  | osl0 => exact ⟨rfl, Nat.zero_le _, by simp [capV, maxLen], fun _ => rfl⟩
  | osl cs' r1 r2 r3 r4 r5 r6 r7 => exact ⟨rfl, r3, r4, fun q => by cases q⟩
 | opa k r =>
  cases h with
  | opa cs' r1 r2 r3 r4 => exact ⟨_, hβ, rfl⟩
 | _ => exact (h.free (fun _ _ _ q => by cases q) (fun _ _ q => by cases q) none).rc
theorem Rel.call {x : Cx} {g : Gh} {σ : St} {a : Act} {w : World} (hr : Rel x g σ a w) {d : Nat} (hd : d < 1000) {gs : List Gv} {bs : List Nat} {vs : List Value} (hnd : nodB (gvN gs) = true) (hnk : nodB (gvK gs) = true) (hdis : ∀ b ∈ bs, b ∉ gvN gs)
  (hgv : ∀ i j l, (i, j, l) ∈ gs -> (∃ o, σ.b i = some o) /\ ∃ u, vs[j]? = some u /\ ((∃ k n, RC g w none (.bs i k n) (xx u l)) \/ (∃ o0, RC g w none (.bx i o0) (xx u l)))) {w' : World} {g' : Gh} {r : D} {outs : List D} {v : Value}
  (b1 : Below 0 w w') (b2 : ∀ b, b < w.heap.size -> (calG g gs bs).up b = none -> w'.heap[b]? = w.heap[b]?) (b3 : ∀ b, (calG g gs bs).S b -> g'.S b) (b4 : ∀ b, b < w.heap.size -> g'.S b -> (calG g gs bs).S b \/ (calG g gs bs).up b ≠ none) (b5 : ∀ b, g'.S b -> b < w'.heap.size)
  (b6 : ∀ b p, g'.up b = some p -> b < w'.heap.size /\ (b < w.heap.size -> (calG g gs bs).up b ≠ none) /\ ¬ g'.S b) (b7 : RNs g' w' r v) (b8 : ∀ (j : Nat) (d : D) (u : Value), outs[j]? = some d -> vs[j]? = some u -> RU g' w' j d u)
  (hpu : bs = [] \/ (Pure r /\ ∀ o ∈ outs, Pure o)) (hlen : lenT r = true) : ∃ ga, Rel x ga (σ.cal d gs r outs) a w' /\ RT ga w' (shA d r) v := by
 classical
 let Rg : Nat -> Prop := fun i => i ∈ gvN gs
 let Rb : Nat -> Prop := fun i => i ∈ bs
 let f : Nat -> Value := fun i => xx (uZ v ((i / 1000 - 1) / 20)) ((i / 1000 - 1) % 20)
 let ga : Gh := ⟨fun i => if ansB d i = true then blkV (f i) else g.β i, fun i => if ansB d i = true then capV (f i) else g.κ i, fun b => if b < w.heap.size /\ ¬ Und g.up Rg b then g.up b else (g'.up b).map (poutG gs d), fun b => g'.S b /\ ¬ Und g.up Rb b⟩
 have hout : ∀ b, ¬ Und g.up Rg b -> (calG g gs bs).up b = none := fun b q => Classical.byContradiction fun e => q (wq.1 e)
 have ev : Ev (fun p => ¬ PU g.up Rg p) (fun p => p) (qCal d gs outs) (fun i => !ansB d i && !inG gs i) g ga w w' := by
  refine ⟨⟨fun b hb => ⟨⟨b3 b (.inl hb), fun q => (hr.und q).2.2 hb⟩, b2 b (hr.new b hb) (hout b fun q => (hr.und q).2.2 hb)⟩, fun b p hb hp => ?_, fun b p o hb hp => ⟨fun q => hp ((wL hb).1 q), rfl⟩⟩, fun i hi => ?_, fun i hi => ?_⟩
  ·have hn : ¬ Und g.up Rg b := fun q => hp ((wL hb).1 q)
   have hlt := (hr.own b p hb).1
   refine ⟨?_, b2 b hlt (hout b hn)⟩
   show (if _ then _ else _) = _
   rw [if_pos ⟨hlt, hn⟩]; exact hb
  ·simp only [qCal, Bool.and_eq_true, Bool.not_eq_true'] at hi
   exact ⟨by show (if _ then _ else _) = _; rw [if_neg (by rw [hi.1]; simp)], by show (if _ then _ else _) = _; rw [if_neg (by rw [hi.1]; simp)]⟩
  ·simp only [Bool.and_eq_true, Bool.not_eq_true'] at hi
   refine ⟨by simp [qCal, hi.1, hi.2], fun q => ?_, rfl⟩
   have : inG gs i = true := inG_iff.2 q
   rw [hi.2] at this; cases this
 have hR := hr.ev ev b1 (fun b hb hg => b2 b (by have := hr.bel.size; omega) (hout b fun q => hg ((hr.und q).2.1 hb))) (fun b hb hs => by
  rcases b4 b (by have := hr.bel.size; omega) hs.1 with (q | q) | q
  ·exact .inl q
  ·exact absurd q hs.2
  ·exact .inr ((hr.und (wq.1 q)).2.1 hb)) (fun b hs => b5 b hs.1) (fun b p hp => by
  simp only [ga] at hp
  split at hp
  ·rename_i q
   obtain ⟨o1, o2, o3⟩ := hr.own b p hp
   refine ⟨by have := b1.size; omega, o2, fun hs => ?_⟩
   rcases b4 b q.1 hs.1 with (r | r) | r
   ·exact o3 r
   ·exact hs.2 r
   ·exact q.2 (wq.1 r)
  ·obtain ⟨p', hp', -⟩ := Option.map_eq_some_iff.1 hp
   obtain ⟨o1, o2, o3⟩ := b6 b p' hp'
   exact ⟨o1, fun q => (hr.und (wq.1 (o2 (by have := hr.bel.size; omega)))).2.1 q, fun hs => o3 hs.1⟩)
 have hmv : ∀ (p : Option Pos) (c : D) (u : Value), Rep g'.S g'.up w' p c u -> (bs = [] \/ Pure c) -> Rep ga.S ga.up w' (p.map (poutG gs d)) c u := fun p c u h hp => by
  refine Rep.pmove (fun b p hb => ⟨?_, rfl⟩) (fun b o => rfl) h (hp.imp (fun q b hs => ⟨⟨hs, fun e => ?_⟩, rfl⟩) id)
  ·show (if _ then _ else _) = _
   rw [if_neg (fun q => q.2 (wq.1 ((b6 b p hb).2.1 q.1))), hb]; rfl
  ·obtain ⟨i, hi⟩ := e.some
   simp only [Rb, q] at hi
   cases hi
 have hcell : ∀ (m l : Nat) (y c : D), uY r m = some y -> ye y l = some c -> c = .un \/ Rep ga.S ga.up w' (some (.root (ansN d m l))) c (xx (uZ v m) l) := fun m l y c h1 h2 => by
  rcases RNs_at b7 h1 h2 with q | q
  ·exact .inl q
  ·exact .inr (hmv _ _ _ q (hpu.imp id fun p => (p.1.comp h1).cell h2))
 have hβ : ∀ i, ansB d i = true -> ga.β i = blkV (f i) /\ ga.κ i = capV (f i) := fun i hi => ⟨by show (if _ then _ else _) = _; rw [if_pos hi], by show (if _ then _ else _) = _; rw [if_pos hi]⟩
 have hRC : ∀ (m l : Nat) (y c : D) (u : Value), m < 40 -> l < 20 -> uY r m = some y -> ye y l = some c -> xx (uZ v m) l = u -> RE ga w' (shC d m l c) u /\ (c ≠ .un -> RC ga w' none (shC d m l c) u) := fun m l y c u hm hl h1 h2 e => by
  obtain ⟨a1, a2, a3⟩ := ansB_ok hd hm hl
  have hf : f (ansN d m l) = u := by show xx (uZ v _) _ = u; rw [a2, a3]; exact e
  obtain ⟨c1, c2⟩ := hβ _ a1
  rw [hf] at c1 c2
  rcases hcell m l y c h1 h2 with q | q
  ·subst q; exact ⟨trivial, fun q => absurd rfl q⟩
  ·rw [e] at q
   have := q.shC c1 c2
   exact ⟨this.re, fun _ => this⟩
 refine ⟨ga, ⟨hR.bel, hR.fr, hR.dfr, hR.sz, hR.tm, hR.s0, hR.old, hR.new, hR.own, fun i o hi => ?_, fun i o hi hq => ?_⟩, ?_⟩
 ·simp only [St.cal] at hi
  split at hi
  ·rename_i o' ho
   injection hi with hi; subst hi
   unfold ansO at ho
   split at ho
   ·rename_i hb
    obtain ⟨y, h1, h2⟩ := Option.bind_eq_some_iff.1 ho
    obtain ⟨c, h3, h4⟩ := Option.bind_eq_some_iff.1 h2
    rcases hcell _ _ y c h1 h3 with q | q
    ·subst q; cases h4
    ·rw [(VE hb).1] at q
     exact q.ro h4 (hβ i hb).1 (fun _ _ _ _ => (hβ i hb).2)
   ·cases ho
  ·split at hi
   ·rename_i o' ho
    split at hi
    ·cases hi
    ·rename_i hb
     injection hi with hi; subst hi
     obtain ⟨j, l, y, c, m1, m2, m3, m4⟩ := U0 ho
     obtain ⟨-, u, u1, u2⟩ := hgv i j l m1
     have hq := RU_at (b8 j y u m2 u1) m3
     rcases hq with q | q
     ·subst q; cases m4
     ·have q := hmv _ _ _ q (hpu.imp id fun p => (p.2 y (List.mem_of_getElem? m2)).cell m3)
      simp only [Option.map_some, poutG, gvB_of hnk m1] at q
      have e1 : ga.β i = g.β i := by show (if _ then _ else _) = _; rw [if_neg hb]
      have e2 : ga.κ i = g.κ i := by show (if _ then _ else _) = _; rw [if_neg hb]
      rcases u2 with ⟨k, n, u2⟩ | ⟨o0, u2⟩
      ·obtain ⟨hu, -, -, u3⟩ := u2
       rw [hu] at q
       refine q.ro m4 ?_ fun e k' rows hc => ?_
       ·rw [e1]; cases g.β i <;> rfl
       ·rw [e2]
        cases hg : g.β i with
        | none => rw [u3 hg]; rfl
        | some b => rfl
      ·obtain ⟨b, hb', hu⟩ := u2
       rw [hu] at q
       refine q.ro m4 (by rw [e1, hb']; rfl) fun e k' rows hc => ?_
       subst hc
       cases q
   ·split at hi
    ·cases hi
    ·rename_i hn
     refine hR.ob i o ?_
     simp only [St.sc]
     rw [if_pos (by simp only [Bool.and_eq_true, Bool.not_eq_true']; simp only [not_or, Bool.not_eq_true] at hn; exact hn)]
     exact hi
 ·have hna : ansB d i = false := by
   cases hb : ansB d i with
   | false => rfl
   | true => rw [(VE hb).2] at hq; cases hq
  have e1 : ga.β i = g.β i := by show (if _ then _ else _) = _; rw [if_neg (by rw [hna]; simp)]
  have e2 : ga.κ i = g.κ i := by show (if _ then _ else _) = _; rw [if_neg (by rw [hna]; simp)]
  have hex : ∃ o', σ.b i = some o' := by
   simp only [St.cal] at hi
   split at hi
   ·rename_i o' ho
    unfold ansO at ho
    rw [hna] at ho; simp at ho
   ·split at hi
    ·rename_i o' ho
     obtain ⟨j, l, y, c, m1, -⟩ := U0 ho
     exact (hgv i j l m1).1
    ·split at hi
     ·cases hi
     ·obtain ⟨o', q, -⟩ := Option.map_eq_some_iff.1 hi; exact ⟨o', q⟩
  obtain ⟨o', ho'⟩ := hex
  rw [e1, e2]; exact hr.par i o' ho' hq
 ·have hE : ∀ (m : Nat) (y : D) (u : Value), m < 40 -> lenE y = true -> uY r m = some y -> uZ v m = u -> RN g' w' m y u -> RE ga w' (shE d m y) u := by
   intro m y u hm hly h1 hu hN
   have one : ∀ u', ye y 0 = some y -> xx u 0 = u' -> RE ga w' (shC d m 0 y) u' := fun u' h2 e => (hRC m 0 y y u' hm (by omega) h1 h2 (by rw [hu]; exact e)).1
   cases y with
   | un => trivial
   | ag xs =>
    obtain ⟨us, rfl, n1, n2⟩ := hN
    simp only [lenE, decide_eq_true_eq] at hly
    refine ⟨us, rfl, by rw [shL_len, n1], fun l c z hc hz => ?_⟩
    rw [shL_at, Nat.zero_add] at hc
    obtain ⟨c0, q1, rfl⟩ := Option.map_eq_some_iff.1 hc
    have hl : l < 20 := by have := (List.getElem?_eq_some_iff.1 q1).1; omega
    have hne : c0 ≠ .un := fun e => by subst e; cases n2 l _ z q1 hz
    exact (hRC m l _ c0 z hm hl h1 q1 (by rw [hu]; exact vg hz)).2 hne
   | tup _ => cases hly
   | mb _ _ => cases hly
   | _ => simp only [RN] at hN; exact one u rfl (zg hN.one 0)
  cases r with
  | tup xs =>
   obtain ⟨us, rfl, n1, n2⟩ := b7
   simp only [lenT, Bool.and_eq_true, decide_eq_true_eq] at hlen
   refine ⟨us, rfl, by rw [shM_len, n1], fun m y u hy hu => ?_⟩
   rw [shM_at, Nat.zero_add] at hy
   obtain ⟨y0, q1, rfl⟩ := Option.map_eq_some_iff.1 hy
   exact hE m y0 u (by have := (List.getElem?_eq_some_iff.1 q1).1; omega) (List.all_eq_true.1 hlen.2 y0 (List.mem_of_getElem? q1)) q1 (vg hu) (n2 m y0 u q1 hu)
  | un => trivial
  | ag xs => exact (hE 0 (.ag xs) v (by omega) hlen rfl (by obtain ⟨us, rfl, -⟩ := b7; rfl) b7).rt
  | mb _ _ => cases hlen
  | _ => simp only [RNs, RN] at b7; simp only [lenT] at hlen; exact (hE 0 _ v (by omega) hlen rfl (UA b7.one 0) (by simp only [RN]; exact b7)).rt
def fdB (σ : St) : D -> Option (Prop × D)
 | .bx id off => match σ.b id with
  | some (.box row) => match fdL σ row with
   | some (ob, ds) => some (off = off /\ ob, .opa off ds)
   | none => none
  | _ => none
 | c => fdC σ c
def idB (σ : St) : D -> List Nat
 | .bx id _ => match σ.b id with
  | some (.box row) => id :: idsC row
  | _ => []
 | .bs id _ _ => [id]
 | _ => []
theorem Rel.lendCell {x : Cx} {g : Gh} {σ : St} {a : Act} {w : World} (h : Rel x g σ a w) {gs : List Gv} {bs : List Nat} {c d : D} {ob : Prop} {u : Value} (hf : fdB σ c = some (ob, d)) (ho : ob) (hu : RC g w none c u) (hb : ∀ i ∈ idB σ c, i ∈ bs) (p : Option Pos) :
  Rep (calG g gs bs).S (calG g gs bs).up w p (frz d) u := by
 have lend : ∀ {c d : D} {ob : Prop} {u : Value} {p0 : Option Pos}, fdC σ c = some (ob, d) -> ob -> RC g w p0 c u -> (∀ i, idC c = some i -> i ∈ bs) -> (∀ q, p0 = some q -> PU g.up (fun i => i ∈ bs) q) -> Rep (calG g gs bs).S (calG g gs bs).up w none (frz d) u := by
  intro c d ob u p0 hf ho hu hi hp
  rcases Xp h hf ho hu with ⟨q1, q2⟩ | ⟨i, q1, q2⟩
  ·exact q2.froz (S' := (calG g gs bs).S) (up' := (calG g gs bs).up) (R := fun i => i ∈ bs) (fun b => .inl) (fun b => .inr) hp
  ·exact q2.froz (S' := (calG g gs bs).S) (up' := (calG g gs bs).up) (R := fun i => i ∈ bs) (fun b => .inl) (fun b => .inr) (fun q hq => by injection hq with hq; subst hq; exact hi i q1)
 refine Rep.any ?_ p
 by_cases hx : ∃ id off, c = .bx id off
 ·obtain ⟨id, off, rfl⟩ := hx
  simp only [fdB] at hf
  split at hf
  ·rename_i row hrow
   split at hf
   ·rename_i ob' ds hfd
    injection hf with hf; injection hf with e1 e2
    subst e1 e2
    obtain ⟨-, ho⟩ := ho
    simp only [idB, hrow] at hb
    obtain ⟨b, hβ, rfl⟩ := hu
    obtain ⟨b', cs, ty, c1, c2, c3, c4, c5⟩ := h.ob id _ hrow
    rw [c1] at hβ; injection hβ with hβ; subst hβ
    obtain ⟨l1, l2⟩ := Wv _ _ _ hfd ho
    have hund : Und g.up (fun i => i ∈ bs) b' := .root c2 (hb id (by simp))
    have hcell : ∀ (j : Nat) (d : D), (frzL ds)[j]? = some d -> ∃ c0 d0 o1, row[j]? = some c0 /\ fdC σ c0 = some (o1, d0) /\ o1 /\ d = frz d0 := by
     intro j d hj
     rw [zW, List.getElem?_map] at hj
     obtain ⟨d0, q2, q3⟩ := Option.map_eq_some_iff.1 hj
     have hlt : j < row.length := by rw [<- l1]; exact (List.getElem?_eq_some_iff.1 q2).1
     obtain ⟨o1, f1, f2⟩ := l2 j _ d0 (List.getElem?_eq_getElem hlt) q2
     exact ⟨_, d0, o1, List.getElem?_eq_getElem hlt, f1, f2, q3.symm⟩
    simp only [frz]
    rw [show (⟨b', off, none⟩ : Addr) = ⟨b', 0 + off, none⟩ by rw [Nat.zero_add]]
    refine Rep.pt_drop (Rep.pt (fun j => cs.getD j undef) (fun j d hj => ⟨.inr hund, ?_⟩) (fun j d hj => ?_)) off
    ·obtain ⟨c0, d0, o1, q1, -⟩ := hcell j d hj
     have hlt : j < cs.size := by rw [c4]; exact (List.getElem?_eq_some_iff.1 q1).1
     simp only [World.cell?, c3, Nat.zero_add]
     rw [if_neg (by simp)]
     exact zP hlt
    ·obtain ⟨c0, d0, o1, q1, q2, q3, rfl⟩ := hcell j d hj
     exact lend q2 q3 (c5 j c0 q1) (fun i hi => hb i (List.mem_cons_of_mem _ (ul q1 hi))) (fun q hq => by injection hq with hq; subst hq; exact hund)
   ·cases hf
  ·cases hf
 ·have hf' : fdC σ c = some (ob, d) := by
   cases c <;> first | exact hf | exact absurd ⟨_, _, rfl⟩ hx
  refine lend hf' ho hu (fun i hi => ?_) (fun q hq => by cases hq)
  cases c <;> first | (cases hi; done) | exact absurd ⟨_, _, rfl⟩ hx | (injection hi with hi; subst hi; exact hb _ (by simp [idB]))
def argC (σ : St) (m : Nat) (c : D) : Option (Prop × D) := if m = 1 then fdC σ c else match fdB σ c with
 | some (ob, d) => some (ob, frz d)
 | none => none
def argL (σ : St) (m : Nat) : List D -> Option (Prop × List D)
 | [] => some (True, [])
 | c :: l => match argC σ m c, argL σ m l with
  | some (o1, d), some (o2, ds) => some (o1 /\ o2, d :: ds)
  | _, _ => none
def argD (σ : St) (m : Nat) : D -> Option (Prop × D)
 | .ag xs => match argL σ m xs with
  | some (ob, ds) => some (ob, .ag ds)
  | none => none
 | .un => none
 | .tup _ => none
 | .mb _ _ => none
 | c => argC σ m c
def gvL (j : Nat) : Nat -> List D -> List Gv
 | _, [] => []
 | l, c :: r => match idC c with
  | some i => (i, j, l) :: gvL j (l + 1) r
  | none => gvL j (l + 1) r
def bsL (σ : St) : List D -> List Nat
 | [] => []
 | c :: r => idB σ c ++ bsL σ r
def yU : D -> List D
 | .ag xs => xs
 | c => [c]
def wb (σ : St) (md : List Nat) : Nat -> List Operand -> Option (Prop × List D × List Gv × List Nat)
 | _, [] => some (True, [], [], [])
 | j, z :: l => match argD σ (md.getD j 0) (xu (ev σ z)), wb σ md (j + 1) l with
  | some (o1, d), some (o2, ds, gs, bs) => some (oblT (ev σ z) /\ o1 /\ o2, d :: ds, (if md.getD j 0 = 1 then gvL j 0 (yU (xu (ev σ z))) else []) ++ gs, (if md.getD j 0 = 1 then [] else bsL σ (yU (xu (ev σ z)))) ++ bs)
  | _, _ => none
theorem Y0 (j : Nat) : ∀ (l : List D) (q i j' l' : Nat), (i, j', l') ∈ gvL j q l -> j' = j /\ ∃ n c, l' = q + n /\ l[n]? = some c /\ idC c = some i
 | [], q, i, j', l', h => by cases h
 | c :: l, q, i, j', l', h => by
  unfold gvL at h
  have tl : (i, j', l') ∈ gvL j (q + 1) l -> j' = j /\ ∃ n c', l' = q + n /\ (c :: l)[n]? = some c' /\ idC c' = some i := fun h => by
   obtain ⟨h1, n, c', h2, h3, h4⟩ := Y0 j l (q + 1) i j' l' h
   exact ⟨h1, n + 1, c', by omega, by simpa using h3, h4⟩
  split at h
  ·rename_i i' hc
   rcases List.mem_cons.1 h with e | h
   ·injection e with e1 e2; injection e2 with e2 e3
    subst e1 e2 e3
    exact ⟨rfl, 0, c, rfl, rfl, hc⟩
   ·exact tl h
  ·exact tl h
theorem gvL_of (j : Nat) : ∀ (l : List D) (q n : Nat) (c : D) (i : Nat), l[n]? = some c -> idC c = some i -> (i, j, q + n) ∈ gvL j q l
 | [], q, n, c, i, h, _ => by simp at h
 | d :: l, q, 0, c, i, h, hc => by simp at h; subst h; unfold gvL; rw [hc]; simp
 | d :: l, q, n + 1, c, i, h, hc => by
  have := gvL_of j l (q + 1) n c i (by simpa using h) hc
  rw [show q + 1 + n = q + (n + 1) by omega] at this
  unfold gvL
  cases idC d with
  | none => exact this
  | some _ => exact List.mem_cons_of_mem _ this
theorem bsL_mem {σ : St} {l : List D} {n : Nat} {c : D} {i : Nat} (h : l[n]? = some c) (hi : i ∈ idB σ c) : i ∈ bsL σ l := by
 induction l generalizing n with
 | nil => simp at h
 | cons d l ih =>
  cases n with
  | zero => simp at h; subst h; simp [bsL, hi]
  | succ n => simp [bsL, ih (n := n) (by simpa using h)]
theorem argL_at {σ : St} {m : Nat} : ∀ (l : List D) (ob : Prop) (ds : List D), argL σ m l = some (ob, ds) -> ob -> ds.length = l.length /\ ∀ (j : Nat) (c d : D), l[j]? = some c -> ds[j]? = some d -> ∃ o1, argC σ m c = some (o1, d) /\ o1
 | [], ob, ds, h, ho => by injection h with h; injection h with e1 e2; subst e2; exact ⟨rfl, fun j c d q => by simp at q⟩
 | c :: l, ob, ds, h, ho => by
  unfold argL at h
  split at h
  ·rename_i o1 d o2 ds' h1 h2
   injection h with h; injection h with e1 e2
   subst e1 e2
   obtain ⟨i1, i2⟩ := argL_at l o2 ds' h2 ho.2
   refine ⟨by simp [i1], fun j c' d' q1 q2 => ?_⟩
   cases j with
   | zero => simp at q1 q2; subst q1 q2; exact ⟨o1, h1, ho.1⟩
   | succ j => exact i2 j c' d' (by simpa using q1) (by simpa using q2)
  ·cases h
section
variable {x : Cx} {g : Gh} {σ : St} {a : Act} {w : World}
theorem fdC_gv {c d : D} {ob : Prop} {i : Nat} {u : Value} (hf : fdC σ c = some (ob, d)) (ho : ob) (hi : idC c = some i) (hu : RC g w none c u) : (∃ o, σ.b i = some o) /\ ((∃ k n, RC g w none (.bs i k n) u) \/ (∃ o0, RC g w none (.bx i o0) u)) := by
 cases c with
 | bs id k n =>
  injection hi with hi; subst hi
  simp only [fdC] at hf
  split at hf
  ·rename_i e k' rows hb; exact ⟨⟨_, hb⟩, .inl ⟨k, n, hu⟩⟩
  ·cases hf
 | bx id off =>
  injection hi with hi; subst hi
  simp only [fdC] at hf
  split at hf
  ·rename_i row hb
   injection hf with hf; injection hf with e1 e2
   subst e1
   exact ⟨⟨_, hb⟩, .inr ⟨_, hu⟩⟩
  ·cases hf
 | _ => cases hi
theorem argD_ok (h : Rel x g σ a w) {gs : List Gv} {bs : List Nat} (hnd : nodB (gvN gs) = true) {m j : Nat} {y d : D} {ob : Prop} {v : Value} (hf : argD σ m y = some (ob, d)) (ho : ob) (hv : RE g w y v)
  (hg : m = 1 -> ∀ p ∈ gvL j 0 (yU y), p ∈ gs) (hb : m ≠ 1 -> ∀ i ∈ bsL σ (yU y), i ∈ bs) : RA (calG g gs bs) w j d v /\ (m = 1 -> ∀ i l, (i, j, l) ∈ gvL j 0 (yU y) -> (∃ o, σ.b i = some o) /\ ((∃ k n, RC g w none (.bs i k n) (xx v l)) \/ (∃ o0, RC g w none (.bx i o0) (xx v l)))) := by
 have cell : ∀ {c d : D} {ob : Prop} {l : Nat} {u : Value}, argC σ m c = some (ob, d) -> ob -> RC g w none c u -> (yU y)[l]? = some c -> Rep (calG g gs bs).S (calG g gs bs).up w (some (.par j l)) d u := by
  intro c d ob l u hf ho hu hc
  unfold argC at hf
  split at hf
  ·rename_i hm
   obtain ⟨q1, q2, -⟩ := h.calCell (gs := gs) (bs := bs) hf ho hu
   cases hi : idC c with
   | none => exact q1 hi _
   | some i =>
    have := gvL_of j _ 0 l c i hc hi
    rw [Nat.zero_add] at this
    exact q2 i j l hi (hg hm _ this) hnd
  ·rename_i hm
   split at hf
   ·rename_i ob' d' hf'
    injection hf with hf; injection hf with e1 e2
    subst e1 e2
    exact h.lendCell hf' ho hu (fun i hi => hb hm i (bsL_mem hc hi)) _
   ·cases hf
 have gv : ∀ {c d : D} {ob : Prop} {i : Nat} {u : Value}, m = 1 -> argC σ m c = some (ob, d) -> ob -> idC c = some i -> RC g w none c u -> (∃ o, σ.b i = some o) /\ ((∃ k n, RC g w none (.bs i k n) u) \/ (∃ o0, RC g w none (.bx i o0) u)) := by
  intro c d ob i u hm hf ho hi hu
  unfold argC at hf
  rw [if_pos hm] at hf
  exact fdC_gv hf ho hi hu
 have one : ∀ c, y = c -> yU y = [c] -> argC σ m c = some (ob, d) -> RC g w none c v -> v.oneCell' = true -> Rep (calG g gs bs).S (calG g gs bs).up w (some (.par j 0)) d v /\ (m = 1 -> ∀ i l, (i, j, l) ∈ gvL j 0 (yU y) -> (∃ o, σ.b i = some o) /\ ((∃ k n, RC g w none (.bs i k n) (xx v l)) \/ (∃ o0, RC g w none (.bx i o0) (xx v l)))) := by
  intro c hy hc hf hu h1
  refine ⟨cell hf ho hu (by rw [hc]; rfl), fun hm i l hq => ?_⟩
  obtain ⟨-, n, c', rfl, q2, q3⟩ := Y0 j _ 0 i j l hq
  rw [hc] at q2
  have : n = 0 := by
   cases n with
   | zero => rfl
   | succ n => simp at q2
  subst this
  injection q2 with q2; subst q2
  rw [zg h1]
  exact gv hm hf ho q3 hu
 cases y with
 | ag xs =>
  simp only [argD] at hf
  split at hf
  ·rename_i ob' ds hl
   injection hf with hf; injection hf with e1 e2
   subst e1 e2
   obtain ⟨us, rfl, u1, u2⟩ := hv
   obtain ⟨l1, l2⟩ := argL_at _ _ _ hl ho
   refine ⟨⟨us, rfl, by rw [u1, l1], fun l d' u hd hu => ?_⟩, fun hm i l hq => ?_⟩
   ·have hlt : l < xs.length := by rw [<- l1]; exact (List.getElem?_eq_some_iff.1 hd).1
    have hc : xs[l]? = some xs[l] := List.getElem?_eq_getElem hlt
    obtain ⟨o1, f1, f2⟩ := l2 l _ d' hc hd
    exact cell f1 f2 (u2 l _ u hc hu) hc
   ·obtain ⟨-, n, c', rfl, q2, q3⟩ := Y0 j _ 0 i j l hq
    rw [Nat.zero_add]
    have q2 : xs[n]? = some c' := q2
    have hlt : n < us.length := by rw [u1]; exact (List.getElem?_eq_some_iff.1 q2).1
    have hu : us[n]? = some us[n] := List.getElem?_eq_getElem hlt
    have hd : ds[n]? = some (ds[n]'(by omega)) := List.getElem?_eq_getElem (by omega)
    obtain ⟨o1, f1, f2⟩ := l2 n c' _ q2 hd
    have : xx (.agg us.toArray) n = us[n] := vg hu
    rw [this]
    exact gv hm f1 f2 q3 (u2 n c' _ q2 hu)
  ·cases hf
 | un => cases hf
 | tup _ => cases hf
 | mb _ _ => cases hf
 | _ =>
  simp only [argD] at hf
  simp only [RE] at hv
  obtain ⟨q1, q2⟩ := one _ rfl rfl hf hv hv.one
  refine ⟨?_, q2⟩
  cases d <;> first | exact q1 | cases q1
theorem Vw (h : Rel x g σ a w) {md : List Nat} {gs : List Gv} {bs : List Nat} (hnd : nodB (gvN gs) = true) : ∀ (l : List Operand) (j : Nat) (ob : Prop) (ds : List D) (gs' : List Gv) (bs' : List Nat), wb σ md j l = some (ob, ds, gs', bs') -> ob -> (∀ p ∈ gs', p ∈ gs) -> (∀ i ∈ bs', i ∈ bs) ->
  ds.length = l.length /\ (∀ (q : Nat) (d : D) (u : Value), ds[q]? = some d -> (l.map a.eval)[q]? = some u -> RA (calG g gs bs) w (j + q) d u) /\
   ∀ i j' l', (i, j', l') ∈ gs' -> j <= j' /\ (∃ o, σ.b i = some o) /\ ∃ u, (l.map a.eval)[j' - j]? = some u /\ ((∃ k n, RC g w none (.bs i k n) (xx u l')) \/ (∃ o0, RC g w none (.bx i o0) (xx u l')))
 | [], j, ob, ds, gs', bs', hf, ho, hg, hb => by
  injection hf with hf; injection hf with e1 e2; injection e2 with e2 e3; injection e3 with e3 e4
  subst e2 e3 e4
  exact ⟨rfl, fun q d u hq => by simp at hq, fun i j' l' hq => by cases hq⟩
 | z :: l, j, ob, ds, gs', bs', hf, ho, hg, hb => by
  unfold wb at hf
  split at hf
  ·rename_i o1 d o2 ds' gs2 bs2 h1 h2
   injection hf with hf; injection hf with e1 e2; injection e2 with e2 e3; injection e3 with e3 e4
   subst e1 e2 e3 e4
   obtain ⟨p1, p2, p3⟩ := ho
   have hv := y8 (vf h z) p1
   obtain ⟨a1, a2⟩ := argD_ok h (gs := gs) (bs := bs) hnd (j := j) h1 p2 hv (fun hm p hp => hg p (by rw [if_pos hm]; exact List.mem_append_left _ hp)) (fun hm i hi => hb i (by rw [if_neg hm]; exact List.mem_append_left _ hi))
   obtain ⟨i1, i2, i3⟩ := Vw h hnd l (j + 1) o2 ds' gs2 bs2 h2 p3 (fun p hp => hg p (List.mem_append_right _ hp)) (fun i hi => hb i (List.mem_append_right _ hi))
   refine ⟨by simp [i1], fun q d' u hd hu => ?_, fun i j' l' hq => ?_⟩
   ·cases q with
    | zero => simp at hd hu; subst hd hu; exact a1
    | succ q =>
     have := i2 q d' u (by simpa using hd) (by simpa using hu)
     rw [show j + 1 + q = j + (q + 1) by omega] at this; exact this
   ·rcases List.mem_append.1 hq with hq | hq
    ·split at hq
     ·rename_i hm
      have hj := (Y0 j _ 0 i j' l' hq).1
      subst hj
      obtain ⟨q1, q2⟩ := a2 hm i l' hq
      exact ⟨Nat.le_refl _, q1, _, by simp, q2⟩
     ·cases hq
    ·obtain ⟨q1, q2, u, q3, q4⟩ := i3 i j' l' hq
     refine ⟨by omega, q2, u, ?_, q4⟩
     rw [show j' - j = j' - (j + 1) + 1 by omega]
     simpa using q3
  ·cases hf
def frA : D -> D
 | .tup xs => .tup (xs.map fun y => match y with
  | .ag ys => .ag (frzL ys)
  | y => frz y)
 | .ag xs => .ag (frzL xs)
 | y => frz y
theorem Rel.callQ (hr : Rel x g σ a w) {bs : List Nat} {w' : World} {g' : Gh} {r : D} {v : Value}
  (b1 : Below 0 w w') (b2 : ∀ b, b < w.heap.size -> (calG g [] bs).up b = none -> w'.heap[b]? = w.heap[b]?) (b3 : ∀ b, (calG g [] bs).S b -> g'.S b) (b4 : ∀ b, b < w.heap.size -> g'.S b -> (calG g [] bs).S b \/ (calG g [] bs).up b ≠ none) (b5 : ∀ b, g'.S b -> b < w'.heap.size)
  (b6 : ∀ b p, g'.up b = some p -> b < w'.heap.size /\ (b < w.heap.size -> (calG g [] bs).up b ≠ none) /\ ¬ g'.S b) (b7 : RNs g' w' r v) (hpu : bs = [] \/ Pure r) : ∃ ga, Rel x ga σ a w' /\ RT ga w' (frA r) v := by
 have hno : ∀ b, (calG g [] bs).up b = none := fun b => Classical.byContradiction fun e => by
  obtain ⟨i, hi⟩ := (wq.1 e).some
  cases hi
 let Rb : Nat -> Prop := fun i => i ∈ bs
 let π : Pos -> Pos := fun p => match p with
  | .cell b o => .cell b o
  | _ => .root 0
 let gm : Gh := ⟨fun _ => none, fun _ => 0, fun b => (g'.up b).map π, fun b => g'.S b /\ ¬ Und g.up Rb b⟩
 let ga : Gh := ⟨g.β, g.κ, g.up, fun b => (g'.S b /\ ¬ Und g.up Rb b) \/ g'.up b ≠ none⟩
 have hnew : ∀ b, g'.up b ≠ none -> b < w'.heap.size /\ w.heap.size <= b := fun b q => by
  cases hq : g'.up b with
  | none => exact absurd hq q
  | some p =>
   obtain ⟨o1, o2, -⟩ := b6 b p hq
   refine ⟨o1, ?_⟩
   rcases Nat.lt_or_ge b w.heap.size with r | r
   ·exact absurd (hno b) (o2 r)
   ·exact r
 have ev : Ev (fun _ => True) (fun p => p) pAll pAll g ga w w' := by
  refine ⟨⟨fun b hb => ⟨.inl ⟨b3 b (.inl hb), fun q => (hr.und q).2.2 hb⟩, b2 b (hr.new b hb) (hno b)⟩, fun b p hb _ => ⟨hb, b2 b (hr.own b p hb).1 (hno b)⟩, fun b p o _ _ => ⟨trivial, rfl⟩⟩, fun i _ => ⟨rfl, rfl⟩, fun i _ => ⟨rfl, trivial, rfl⟩⟩
 have hR := hr.ev ev b1 (fun b hb _ => b2 b (by have := hr.bel.size; omega) (hno b)) (fun b hb hs => by
  have := hr.bel.size
  rcases hs with ⟨q1, q2⟩ | q
  ·rcases b4 b (by omega) q1 with (r | r) | r
   ·exact .inl r
   ·exact absurd r q2
   ·exact absurd (hno b) r
  ·have := (hnew b q).2; omega) (fun b hs => hs.elim (fun q => b5 b q.1) (fun q => (hnew b q).1)) (fun b p hp => by
  obtain ⟨o1, o2, o3⟩ := hr.own b p hp
  refine ⟨by have := b1.size; omega, o2, fun hs => ?_⟩
  rcases hs with ⟨q1, q2⟩ | q
  ·rcases b4 b o1 q1 with (r | r) | r
   ·exact o3 r
   ·exact q2 r
   ·exact absurd (hno b) r
  ·have := (hnew b q).2; omega)
 rw [sc_all] at hR
 have key : ∀ (p : Pos) (c : D) (u : Value), (∀ b o, p ≠ .cell b o) -> Rep g'.S g'.up w' (some p) c u -> (bs = [] \/ Pure c) -> Rep ga.S ga.up w' none (frz c) u := by
  intro p c u hp h hq
  have h1 : Rep gm.S gm.up w' ((some p).map π) c u := Rep.pmove (fun b p hb => ⟨by show (g'.up b).map π = _; rw [hb]; rfl, rfl⟩) (fun b o => rfl) h (hq.imp (fun q b hs => ⟨⟨hs, fun e => by obtain ⟨i, hi⟩ := e.some; simp only [Rb, q] at hi; cases hi⟩, rfl⟩) id)
  refine h1.froz (S' := ga.S) (up' := ga.up) (R := fun _ => True) (fun b hs => .inl hs) (fun b hu => .inr fun e => ?_) (fun q hq => ?_)
  ·have : gm.up b = none := by show (g'.up b).map π = none; rw [e]; rfl
   cases hu with
   | root h' _ => rw [this] at h'; cases h'
   | cell h' _ => rw [this] at h'; cases h'
  ·rw [Option.map_some] at hq
   injection hq with hq; subst hq
   cases p with
   | cell b o => exact absurd rfl (hp b o)
   | _ => trivial
 refine ⟨ga, hR, ?_⟩
 have cellE : ∀ (m : Nat) (y : D) (u : Value), RN g' w' m y u -> (bs = [] \/ Pure y) -> RE ga w' (match y with | .ag ys => .ag (frzL ys) | y => frz y) u := by
  intro m y u hN hp
  cases y with
  | un => trivial
  | ag xs =>
   obtain ⟨us, rfl, n1, n2⟩ := hN
   refine ⟨us, rfl, by rw [ZM]; exact n1, fun l c z hc hz => ?_⟩
   rw [zW, List.getElem?_map] at hc
   obtain ⟨c0, q1, rfl⟩ := Option.map_eq_some_iff.1 hc
   exact (key _ _ _ (fun _ _ => by simp) (n2 l c0 z q1 hz) (hp.imp id fun p => p.cell q1)).rc
  | tup _ => simp only [RN] at hN; cases hN
  | mb _ _ => simp only [RN] at hN; cases hN
  | bx _ _ => simp only [RN] at hN; cases hN
  | el _ _ _ _ => simp only [RN] at hN; cases hN
  | bs _ _ _ => simp only [RN] at hN; cases hN
  | _ => simp only [RN] at hN; exact (key _ _ _ (fun _ _ => by simp) hN hp).rc.re
 cases r with
 | tup xs =>
  obtain ⟨us, rfl, n1, n2⟩ := b7
  refine ⟨us, rfl, by simp [n1], fun m y u hy hu => ?_⟩
  rw [List.getElem?_map] at hy
  obtain ⟨y0, q1, rfl⟩ := Option.map_eq_some_iff.1 hy
  exact cellE m y0 u (n2 m y0 u q1 hu) (hpu.imp id fun p => p.comp q1)
 | un => trivial
 | ag xs => exact (cellE 0 (.ag xs) v b7 hpu).rt
 | mb _ _ => simp only [RNs, RN] at b7; cases b7
 | bx _ _ => simp only [RNs, RN] at b7; cases b7
 | el _ _ _ _ => simp only [RNs, RN] at b7; cases b7
 | bs _ _ _ => simp only [RNs, RN] at b7; cases b7
 | _ => simp only [RNs] at b7; exact (cellE 0 _ v b7 hpu).rt
end
structure Md where
 P : Program
 md : FuncId -> List Nat
 mix : P.follows .mixedOrders = true
 lit : Bool := false
 lr : Nat -> Bool := fun _ => false
def Md.at (M : Md) (id : Nat) : Md := ⟨M.P, M.md, M.mix, M.lr id, M.lr⟩
theorem Md.at_P (M : Md) (id : Nat) : (M.at id).P = M.P := rfl
theorem Md.at_md (M : Md) (id : Nat) : (M.at id).md = M.md := rfl
theorem Md.at_lit (M : Md) (id : Nat) : (M.at id).lit = M.lr id := rfl
def litB : List Nat -> Nat -> Bool
 | [], _ => false
 | x :: l, i => (x == i) || litB l i
theorem litB_nil (i : Nat) : litB [] i = false := rfl
theorem litB_cons (x : Nat) (l : List Nat) (i : Nat) : litB (x :: l) i = ((x == i) || litB l i) := rfl
section
variable {x : Cx} {g : Gh} {σ : St} {a : Act} {w : World}
def yA (σ : St) (m : Nat) (c : D) : Option (Prop × St) := match idC c with
 | none => some (True, σ)
 | some id => match σ.b id with
  | some (.box _) => match foldB σ id with
   | some (ob, ds, σ') => some (ob, if m = 2 then σ'.fr id (.box ds) else σ')
   | none => none
  | some (.arr e k rows) => some (True, if m = 2 then σ.fr id (.arr e k rows) else σ)
  | _ => none
def uA (m : Nat) : List D -> St -> Option (Prop × St)
 | [], σ => some (True, σ)
 | c :: l, σ => match yA σ m c with
  | some (o1, σ1) => match uA m l σ1 with
   | some (o2, σ2) => some (o1 /\ o2, σ2)
   | none => none
  | none => none
def zO (md : List Nat) : Nat -> List Operand -> St -> Option (Prop × St)
 | _, [], σ => some (True, σ)
 | j, z :: l, σ => if md.getD j 0 = 0 then zO md (j + 1) l σ else match uA (md.getD j 0) (yU (xu (ev σ z))) σ with
  | some (o1, σ1) => match zO md (j + 1) l σ1 with
   | some (o2, σ2) => some (o1 /\ o2, σ2)
   | none => none
  | none => none
theorem foldB_box {σ σ' : St} {id : Nat} {ob : Prop} {ds : List D} (h : foldB σ id = some (ob, ds, σ')) : σ'.b id = some (.box ds) /\ ds.all zN = true := by
 unfold foldB at h
 split at h
 ·split at h
  ·rename_i hf
   injection h with h; injection h with e1 e2; injection e2 with e2 e3
   subst e2 e3
   exact ⟨by simp [St.setB], fdL_deep hf⟩
  ·cases h
 ·cases h
theorem prepC_ok {σ' : St} {m : Nat} {c : D} {ob : Prop} (h : Rel x g σ a w) (hf : yA σ m c = some (ob, σ')) (ho : ob) : ∃ g', Rel x g' σ' a w := by
 unfold yA at hf
 split at hf
 ·injection hf with hf; injection hf with e1 e2; subst e2; exact ⟨g, h⟩
 ·rename_i id hid
  split at hf
  ·split at hf
   ·rename_i ob' ds σ1 h1
    injection hf with hf; injection hf with e1 e2
    subst e1 e2
    obtain ⟨g1, q1⟩ := h.foldB h1 ho
    split
    ·obtain ⟨q2, q3⟩ := foldB_box h1
     exact q1.freeze id (.box ds) q2 q3
    ·exact ⟨g1, q1⟩
   ·cases hf
  ·rename_i e k rows hb
   injection hf with hf; injection hf with e1 e2
   subst e2
   split
   ·exact h.freeze id _ hb rfl
   ·exact ⟨g, h⟩
  ·cases hf
theorem Qt {m : Nat} : ∀ (l : List D) {g : Gh} {σ σ' : St} {ob : Prop}, Rel x g σ a w -> uA m l σ = some (ob, σ') -> ob -> ∃ g', Rel x g' σ' a w
 | [], g, σ, σ', ob, h, hf, ho => by injection hf with hf; injection hf with e1 e2; subst e2; exact ⟨g, h⟩
 | c :: l, g, σ, σ', ob, h, hf, ho => by
  unfold uA at hf
  split at hf
  ·rename_i o1 σ1 h1
   split at hf
   ·rename_i o2 σ2 h2
    injection hf with hf; injection hf with e1 e2
    subst e1 e2
    obtain ⟨g1, q1⟩ := prepC_ok h h1 ho.1
    exact Qt l q1 h2 ho.2
   ·cases hf
  ·cases hf
theorem Z1 {md : List Nat} : ∀ (l : List Operand) (j : Nat) {g : Gh} {σ σ' : St} {ob : Prop}, Rel x g σ a w -> zO md j l σ = some (ob, σ') -> ob -> ∃ g', Rel x g' σ' a w
 | [], j, g, σ, σ', ob, h, hf, ho => by injection hf with hf; injection hf with e1 e2; subst e2; exact ⟨g, h⟩
 | z :: l, j, g, σ, σ', ob, h, hf, ho => by
  unfold zO at hf
  split at hf
  ·exact Z1 l (j + 1) h hf ho
  ·split at hf
   ·rename_i o1 σ1 h1
    split at hf
    ·rename_i o2 σ2 h2
     injection hf with hf; injection hf with e1 e2
     subst e1 e2
     obtain ⟨g1, q1⟩ := Qt _ h h1 ho.1
     exact Z1 l (j + 1) q1 h2 ho.2
    ·cases hf
   ·cases hf
def reop : List Gv -> St -> Option (Prop × St)
 | [], σ => some (True, σ)
 | (i, _, _) :: r, σ => match σ.b i with
  | some (.box row) => match reop r (σ.unfB i row) with
   | some (o, σ') => some ((row.all zN = true /\ i < 1000000) /\ o, σ')
   | none => none
  | _ => reop r σ
theorem W8 : ∀ (l : List Gv) {g : Gh} {σ σ' : St} {ob : Prop}, Rel x g σ a w -> reop l σ = some (ob, σ') -> ob -> ∃ g', Rel x g' σ' a w
 | [], g, σ, σ', ob, h, hf, ho => by injection hf with hf; injection hf with e1 e2; subst e2; exact ⟨g, h⟩
 | (i, j, l') :: l, g, σ, σ', ob, h, hf, ho => by
  unfold reop at hf
  split at hf
  ·rename_i row hb
   split at hf
   ·rename_i o σ1 h1
    injection hf with hf; injection hf with e1 e2
    subst e1 e2
    obtain ⟨g1, q1⟩ := h.unfB hb ho.1.1 ho.1.2
    exact W8 l q1 h1 ho.2
   ·cases hf
  ·exact W8 l h hf ho
end
def vL (σ : St) : List Operand -> Option (Prop × List D)
 | [] => some (True, [])
 | z :: l => match xu (ev σ z), vL σ l with
  | y, some (ob, ys) => some (oblT (ev σ z) /\ zN y = true /\ ob, y :: ys)
  | _, none => none
def aopF (σ : St) : Op -> Option (Prop × D)
 | .makeFunc (.func f) first caps => match first.toList, vL σ caps.toList with
  | [], some (ob, ys) => some (ob, .fn f ys)
  | _, _ => none
 | _ => none
theorem RE.deep {g : Gh} {w : World} {y : D} {v : Value} (h : RE g w y v) (hd : zN y = true) : Rep g.S g.up w none y v := by
 cases y <;> first | exact h | cases hd
theorem Vx {x : Cx} {σ : St} {g : Gh} {a : Act} {w : World} (hr : Rel x g σ a w) : ∀ (l : List Operand) (ob : Prop) (ys : List D), vL σ l = some (ob, ys) -> ob -> ys.length = l.length /\ ∀ (j : Nat) (d : D) (u : Value), ys[j]? = some d -> (l.map a.eval)[j]? = some u -> Rep g.S g.up w none d u
 | [], ob, ys, h, ho => by injection h with h; injection h with e1 e2; subst e2; exact ⟨rfl, fun j d u q => by simp at q⟩
 | z :: l, ob, ys, h, ho => by
  unfold vL at h
  split at h
  ·rename_i ob' ys' hl
   injection h with h; injection h with e1 e2
   subst e1 e2
   have h1 := (y8 (vf hr z) ho.1).deep ho.2.1
   obtain ⟨i1, i2⟩ := Vx hr l ob' ys' hl ho.2.2
   refine ⟨by simp [i1], fun j d u q r => ?_⟩
   cases j with
   | zero => simp at q r; subst q r; exact h1
   | succ j => exact i2 j d u (by simpa using q) (by simpa using r)
  ·cases h
theorem aopF_ok {x : Cx} {σ : St} {o : Oper} {ob : Prop} {y : D} (h : aopF σ o.op = some (ob, y)) (ho : ob) {g : Gh} {a : Act} {w : World} (hr : Rel x g σ a w) :
  ∃ r, (execOp a.eval o).run x.P w = .ok (.value r) w /\ RT g w y r := by
 unfold aopF at h
 split at h
 ·rename_i f first caps hop
  split at h
  ·rename_i ob' ys h1 h2
   injection h with h; injection h with e1 e2
   subst e1 e2
   have hf : first = #[] := Array.ext' h1
   subst hf
   obtain ⟨c1, c2⟩ := Vx hr _ _ _ h2 ho
   have hval : (caps.map a.eval) = ((List.range ys.length).map fun j => (caps.toList.map a.eval).getD j undef).toArray := by
    apply Array.ext'
    rw [Array.toList_map]
    apply List.ext_getElem?
    intro j
    rcases Nat.lt_or_ge j ys.length with q | q
    ·rw [List.getElem?_map (l := List.range ys.length), List.getElem?_range q, Option.map_some, List.getD_eq_getElem?_getD]
     have hj : j < (caps.toList.map a.eval).length := by rw [List.length_map, <- c1]; exact q
     rw [List.getElem?_eq_getElem hj]; rfl
    ·rw [List.getElem?_eq_none (by rw [List.length_map, <- c1]; exact q), List.getElem?_eq_none (by simpa using q)]
   refine ⟨.func (.func f) #[] (caps.map a.eval), ?_, ?_⟩
   ·simp only [execOp, hop, Instr.makeFunc, Sem.run_bind, Sem.run_pure, Result.andThen_ok, Array.map_empty]
   ·rw [hval]
    refine Rep.rt (Rep.fn _ fun j d hj => ?_)
    have hlt : j < (caps.toList.map a.eval).length := by rw [List.length_map, <- c1]; exact (List.getElem?_eq_some_iff.1 hj).1
    have := c2 j d _ hj (List.getElem?_eq_getElem hlt)
    rw [List.getD_eq_getElem?_getD, List.getElem?_eq_getElem hlt]; exact this
  ·cases h
 ·cases h
def aopP (P : Program) (σ : St) (op : Op) : Option (Prop × D) := match aop1 P σ op with
 | some r => some r
 | none => aopF σ op
theorem YU {x : Cx} {σ : St} {o : Oper} {ob : Prop} {y : D} (h : aopP x.P σ o.op = some (ob, y)) (ho : ob) {g : Gh} {a : Act} {w : World} (hr : Rel x g σ a w) :
  ∃ r, (execOp a.eval o).run x.P w = .ok (.value r) w /\ RT g w y r := by
 unfold aopP at h
 split at h
 ·rename_i r h1
  injection h with h
  subst h
  exact aop1_ok h1 ho hr
 ·exact aopF_ok h ho hr
def aopB (P : Program) (σ : St) : Op -> Option (Prop × D)
 | .buildSlice t len parts => match tk P t with
  | .sl e k _ _ => match uw σ k 0 parts.toList with
   | some (ob, rows, raw) => some (ob /\ parts.toList.length = len /\ len * k <= 16777216 /\ idsC raw = [], .sl k rows)
   | none => none
  | _ => none
 | .build t parts => match wM P σ t parts with
  | some (ob, y) => some (ob, y)
  | none => none
 | _ => none
theorem WK {x : Cx} {σ : St} {o : Oper} {ob : Prop} {y : D} (h : aopB x.P σ o.op = some (ob, y)) (ho : ob) {g : Gh} {a : Act} {w : World} (hr : Rel x g σ a w) :
  ∃ r w' g', (execOp a.eval o).run x.P w = .ok (.value r) w' /\ Rel x g' σ a w' /\ RT g' w' y r := by
 unfold aopB at h
 split at h
 ·rename_i t len parts hop
  split at h
  ·rename_i e k by_ z hk
   split at h
   ·rename_i ob' rows raw h'
    injection h with h; injection h with e1 e2
    subst e1 e2
    obtain ⟨o1, o2, o3, o4⟩ := ho
    obtain ⟨vals, r1, r2, r3, r4, r5⟩ := lit_run hr hk hop h' o1 o2 o3
    have hold : ∀ b, b < w.heap.size -> (w.alloc (.cells vals.toArray e)).heap[b]? = w.heap[b]? := fun b hb => Below.heap_alloc _ _ _ hb
    let ga : Gh := ⟨g.β, g.κ, g.up, fun b => g.S b \/ b = w.heap.size⟩
    have ev : Ev (fun _ => True) (fun p => p) pAll pAll g ga w (w.alloc (.cells vals.toArray e)) := ⟨⟨fun b hb => ⟨.inl hb, hold b (hr.new b hb)⟩, fun b p hb _ => ⟨hb, hold b (hr.own b p hb).1⟩, fun b p o _ _ => ⟨trivial, rfl⟩⟩, fun i _ => ⟨rfl, rfl⟩, fun i _ => ⟨rfl, trivial, rfl⟩⟩
    have hR := hr.ev ev ((Below.refl _ _).alloc (Nat.zero_le _) _) (fun b hb _ => hold b (by have := hr.bel.size; omega)) (fun b hb hs => hs.elim .inl (fun q => by have := hr.bel.size; omega)) (fun b hs => by rw [yT]; exact hs.elim (fun q => by have := hr.new b q; omega) (fun q => by omega)) (fun b p hp => by
     obtain ⟨q1, q2, q3⟩ := hr.own b p hp
     exact ⟨by rw [yT]; omega, q2, fun hs => hs.elim q3 (fun q => by omega)⟩)
    rw [sc_all] at hR
    have hcell : ∀ (i j : Nat) (row : List D) (d : D), rows[i]? = some row -> row[j]? = some d -> ∃ u, vals[i * k + j]? = some u /\ Rep g.S g.up w none d u := fun i j row d hi hj => by
     obtain ⟨u, c, q1, q2, q3⟩ := r4 i j row d hi hj
     rcases q3 with ⟨-, q3⟩ | ⟨id, q3, -⟩
     ·exact ⟨u, q1, q3⟩
     ·have := ul q2 q3
      rw [o4] at this; cases this
    refine ⟨_, _, ga, r5, hR, Rep.rt ?_⟩
    refine Rep.sl (fun i j => vals.getD (i * k + j) undef) (Nat.le_refl _) r1 r3 (fun i j row d hi hj => ⟨.inr rfl, ?_⟩) (fun i j row d hi hj => ?_)
    ·obtain ⟨u, q1, -⟩ := hcell i j row d hi hj
     rw [xZ q1]
     simp only [World.cell?, ZB, Nat.zero_add]
     rw [if_neg (by simp)]
     simpa using q1
    ·obtain ⟨u, q1, q2⟩ := hcell i j row d hi hj
     rw [xZ q1]
     exact Rep.move ev.toMv q2 (fun q hq => by cases hq)
   ·cases h
  ·cases h
 ·rename_i t parts hop
  split at h
  ·rename_i ob' y' h'
   injection h with h; injection h with e1 e2
   subst e1 e2
   obtain ⟨r, r1, r2⟩ := Um hr h' ho
   refine ⟨r, w, g, ?_, hr, r2.rt⟩
   simp only [execOp, hop, Sem.run_bind, r1]; rfl
  ·cases h
 ·cases h
def gdT (c : Bool) : D -> D
 | .mb c' x => .mb (c && c') x
 | .tup _ => .un
 | x => .mb c x
theorem uj {g : Gh} {w : World} {y : D} {v : Value} (h : RT g w y v) : RT g w (gdT true y) v := by
 cases y with
 | mb c x => exact ⟨fun q => h.1 (by simpa using q), fun q => h.2 (by simpa using q)⟩
 | tup xs => trivial
 | _ => simp only [RT] at h; exact ⟨fun _ => h, fun q => (by cases q)⟩
theorem zZ (g : Gh) (w : World) (y : D) : RT g w (gdT false y) undef := by
 cases y with
 | mb c x => exact ⟨fun q => (by cases q), fun _ => rfl⟩
 | tup xs => trivial
 | _ => exact ⟨fun q => (by cases q), fun _ => rfl⟩
def gvT (y : D) (want : Bool) : Option Bool := match y with
 | .s (.bool b) => some (b == want)
 | .mb c (.s (.bool b)) => some (c && (b == want))
 | .mb c .un => match c with
  | false => some false
  | true => none
 | _ => none
def YY (ops : Array Oper) (j : Nat) : Option Tmp := (ops[j]?).bind (·.dst)
def grd (ops : Array Oper) (σ : St) (j : Nat) (want : Bool) : Option Bool := match YY ops j with
 | some t => gvT (σ.t t) want
 | none => none
def chk (N : Nat) (ops : Array Oper) : Bool := ops.toList.all fun o => match o.dst with
 | some d => decide (d < N) && decide (d < 999)
 | none => true
theorem vw {N : Nat} {ops : Array Oper} (h : chk N ops = true) {j : Nat} {o : Oper} (ho : ops[j]? = some o) {d : Tmp} (hd : o.dst = some d) : d < N /\ d < 999 := by
 have := List.all_eq_true.1 h o (by rw [<- Array.getElem?_toList] at ho; exact List.mem_of_getElem? ho)
 rw [hd] at this
 simpa using this
theorem lt_isP {d : Nat} (h : d < 999) : isP d = false := by
 unfold isP
 simp only [Bool.and_eq_false_iff, decide_eq_false_iff_not]; omega
theorem grd_ok {x : Cx} {g : Gh} {σ : St} {a : Act} {w : World} (hr : Rel x g σ a w) {ops : Array Oper} (hc : chk x.N ops = true) {j : Nat} {want c : Bool} (h : grd ops σ j want = some c) :
  (yielded ops a.tmps j == some want) = c := by
 unfold grd at h
 split at h
 ·rename_i t ht
  have htN : t < a.tmps.size := by
   rw [hr.sz]
   unfold YY at ht
   cases ho : ops[j]? with
   | none => rw [ho] at ht; cases ht
   | some o => rw [ho] at ht; exact (vw hc ho ht).1
  have hy : yielded ops a.tmps j = match a.tmps.getD t undef with | .bool b => some b | _ => none := by
   unfold yielded
   unfold YY at ht
   rw [ht]
   simp only [Option.bind_some, Array.getElem?_eq_getElem htN]
   rw [show a.tmps.getD t undef = a.tmps[t] by rw [Array.getD_eq_getD_getElem?, Array.getElem?_eq_getElem htN]; rfl]
   split <;> rename_i q
   ·injection q with q; rw [q]
   ·split
    ·rename_i b q'; rw [q'] at q; exact absurd rfl (q b)
    ·rfl
  have h1 := hr.tm t
  unfold gvT at h
  split at h
  ·rename_i b hb
   injection h with h
   rw [hb] at h1
   have hv : a.tmps.getD t undef = .bool b := Rep.s_inv (show Rep g.S g.up w none (.s (.bool b)) _ from h1)
   rw [hy, hv, <- h]
   cases b <;> cases want <;> rfl
  ·rename_i c' b hb
   injection h with h
   rw [hb] at h1
   cases c' with
   | true =>
    have hv : a.tmps.getD t undef = .bool b := Rep.s_inv (show Rep g.S g.up w none (.s (.bool b)) _ from h1.1 rfl)
    rw [hy, hv, <- h]
    cases b <;> cases want <;> rfl
   | false =>
    have hv : a.tmps.getD t undef = undef := h1.2 rfl
    rw [hy, hv, <- h]
    cases want <;> rfl
  ·rename_i c' hb
   rw [hb] at h1
   cases c' with
   | true => cases h
   | false =>
    injection h with h
    have hv : a.tmps.getD t undef = undef := h1.2 rfl
    rw [hy, hv, <- h]
    cases want <;> rfl
  ·cases h
 ·cases h
def aFn (σ : St) : Op -> Option (Prop × FuncId × List D × List Operand)
 | .call ⟨.value fo, args, _⟩ => match xu (ev σ fo) with
  | .fn f caps => some (oblT (ev σ fo), f, caps, args.toList)
  | _ => none
 | _ => none
def YR (P : Program) (f : FuncId) (ars : List D) (bs : List Nat) (K : D -> List D -> Prop) : Prop := ∃ Rs, FCon P f ars Rs /\ ∀ r outs, Rs r outs -> (bs = [] \/ (Pure r /\ ∀ o ∈ outs, Pure o)) /\ K r outs
def aft (σ : St) (dst : Option Tmp) (gs : List Gv) (K : St -> Prop) (r : D) (outs : List D) : Prop :=
 lenT r = true /\ match reop gs ((σ.cal (dst.getD 999) gs r outs).put dst (shA (dst.getD 999) r)) with
  | some (ob, σ') => ob /\ K σ'
  | none => False
def YQ (M : Md) (σ : St) (o : Oper) (K : St -> Prop) : Prop := match aFn σ o.op with
 | some (_, f0, _, ops0) => match zO (M.md f0) 0 ops0 σ with
  | some (o1, σ1) => match aFn σ1 o.op with
   | some (o0, f, caps, ops) => match wb σ1 (M.md f0) 0 ops with
    | some (o2, ars, gs, bs) => o0 /\ o1 /\ o2 /\ nodB (gvN gs) = true /\ nodB (gvK gs) = true /\ bs.all (pOut (gvN gs)) = true /\ YR M.P f (ars ++ caps) bs (aft σ1 o.dst gs K)
    | none => False
   | none => False
  | none => False
 | none => False
def Yc (P : Program) (σ : St) (o : Oper) (c : Bool) (wr : D -> D) (K : St -> Prop) : Prop :=
 ∃ r, (c = true -> ∃ d ob f caps ops o2 ars bs r0, o.dst = some d /\ aFn σ o.op = some (ob, f, caps, ops) /\ ob /\ wb σ [] 0 ops = some (o2, ars, [], bs) /\ o2 /\ FCon P f (ars ++ caps) (fun r _ => r = r0) /\ (bs = [] \/ Pure r0) /\ r = frA r0) /\ K (σ.put o.dst (wr r))
theorem Uo {x : Cx} {σ : St} {o : Oper} {ob : Prop} {f : FuncId} {caps : List D} {ops : List Operand} (h : aFn σ o.op = some (ob, f, caps, ops)) (ho : ob) {g : Gh} {a : Act} {w : World} (hr : Rel x g σ a w) :
  ∃ us : List Value, us.length = caps.length /\ (∀ (j : Nat) (d : D) (u : Value), caps[j]? = some d -> us[j]? = some u -> Rep g.S g.up w none d u) /\ (execOp a.eval o).run x.P w = (callFunc f (ops.map a.eval ++ us).toArray).run x.P w := by
 unfold aFn at h
 split at h
 ·rename_i fo args ts hop
  split at h
  ·rename_i f' caps' hf
   injection h with h; injection h with e1 e2; injection e2 with e2 e3; injection e3 with e3 e4
   subst e1 e2 e3 e4
   have h1 := y8 (vf hr fo) ho
   rw [hf] at h1
   have h1 : Rep g.S g.up w none (.fn f' caps') (a.eval fo) := h1
   generalize hv : a.eval fo = v at h1
   cases h1 with
   | fn us hus =>
    refine ⟨(List.range caps'.length).map us, by simp, fun j d u hd hu => ?_, ?_⟩
    ·rw [List.getElem?_map, List.getElem?_range (List.getElem?_eq_some_iff.1 hd).1] at hu
     injection hu with hu
     subst hu
     exact hus j d hd
    ·simp only [execOp, hop, resolve, Sem.run_bind, Deferred.ofValue, hv, Sem.run_pure, Result.andThen_ok, invoke, Array.empty_append]
     congr 2
     apply Array.ext'
     simp
  ·cases h
 ·cases h
theorem VF {x : Cx} {g : Gh} {σ : St} {a : Act} {w : World} (h : Rel x g σ a w) {md : List Nat} {ops : List Operand} {o2 : Prop} {ars caps : List D} {gs : List Gv} {bs : List Nat} {us : List Value} (hf : wb σ md 0 ops = some (o2, ars, gs, bs)) (ho : o2) (hnd : nodB (gvN gs) = true) (hul : us.length = caps.length) (hus : ∀ (j : Nat) (d : D) (u : Value), caps[j]? = some d -> us[j]? = some u -> Rep g.S g.up w none d u) :
  (ops.map a.eval ++ us).length = (ars ++ caps).length /\ (∀ (j : Nat) (d : D) (u : Value), (ars ++ caps)[j]? = some d -> (ops.map a.eval ++ us)[j]? = some u -> RA (calG g gs bs) w j d u) /\
   ∀ i j l, (i, j, l) ∈ gs -> (∃ o, σ.b i = some o) /\ ∃ u, (ops.map a.eval ++ us)[j]? = some u /\ ((∃ k n, RC g w none (.bs i k n) (xx u l)) \/ (∃ o0, RC g w none (.bx i o0) (xx u l))) := by
 obtain ⟨a1, a2, a3⟩ := Vw h (gs := gs) (bs := bs) hnd ops 0 o2 ars gs bs hf ho (fun p hp => hp) (fun i hi => hi)
 refine ⟨by simp [a1, hul], fun j d u hd hu => ?_, fun i j l hi => ?_⟩
 ·rcases Nat.lt_or_ge j ars.length with q | q
  ·rw [List.getElem?_append_left q] at hd
   rw [List.getElem?_append_left (by rw [List.length_map]; omega)] at hu
   have := a2 j d u hd hu
   rwa [Nat.zero_add] at this
  ·rw [List.getElem?_append_right q] at hd
   rw [List.getElem?_append_right (by rw [List.length_map]; omega), List.length_map, <- a1] at hu
   have hr := hus _ d u hd hu
   have m : Mv (fun _ => False) (fun p => p) g (calG g gs bs) w w := ⟨fun b hb => ⟨.inl hb, rfl⟩, fun b p _ q => q.elim, fun b p o _ q => q.elim⟩
   have := (Rep.move m hr (fun q hq => by cases hq)).any (some (.par j 0))
   cases d <;> first | exact this | cases this
 ·obtain ⟨-, q1, u, q2, q3⟩ := a3 i j l hi
  rw [Nat.sub_zero] at q2
  refine ⟨q1, u, ?_, q3⟩
  rw [List.getElem?_append_left (List.getElem?_eq_some_iff.1 q2).1]; exact q2
def gvCall (M : Md) (σ : St) (op : Op) : Bool := match aFn σ op with
 | some (_, f, _, _) => match M.md f with
  | 1 :: _ => true
  | _ => false
 | none => false
def astep (M : Md) (ops : Array Oper) (o : Oper) (σ : St) (K : St -> Prop) : Prop := match o.guard with
 | none => match aopP M.P σ o.op with
  | some (ob, y) => ob /\ K (σ.put o.dst y)
  | none => match aop2 M.P σ o.dst o.op with
   | some (ob, y, σ') => ob /\ K (σ'.put o.dst y)
   | none => match aop3 M.P σ o.dst o.op with
    | some (ob, y, σ') => ob /\ K (σ'.put o.dst y)
    | none => YQ M σ o K
 | some (j, want) => match grd ops σ j want with
  | none => False
  | some c => if (M.lit && !c) = true then K (σ.put o.dst (gdT false .un)) else match aopP M.P σ o.op with
   | some (ob, y) => (c = true -> ob) /\ K (σ.put o.dst (gdT c y))
   | none => match aopB M.P σ o.op with
    | some (ob, y) => (c = true -> ob) /\ K (σ.put o.dst (gdT c y))
    | none => match gvCall M σ o.op with
     | true => (c = true -> YQ M σ o K) /\ (c = false -> K (σ.put o.dst (gdT false .un)))
     | false => Yc M.P σ o c (gdT c) K
def aops (M : Md) (ops : Array Oper) (K : St -> Prop) : List Oper -> St -> Prop
 | [], σ => K σ
 | o :: rest, σ => astep M ops o σ (aops M ops K rest)
theorem ZF {x : Cx} {σ : St} {o : Oper} {r : D} (h : ∃ d ob f caps ops o2 ars bs r0, o.dst = some d /\ aFn σ o.op = some (ob, f, caps, ops) /\ ob /\ wb σ [] 0 ops = some (o2, ars, [], bs) /\ o2 /\ FCon x.P f (ars ++ caps) (fun r _ => r = r0) /\ (bs = [] \/ Pure r0) /\ r = frA r0) {g : Gh} {a : Act} {w : World} (hr : Rel x g σ a w) {K : Act -> World -> Prop} {Q : Exit -> Act -> World -> Prop}
  (hK : ∀ v g' w', Rel x g' σ a w' -> RT g' w' r v -> K (a.put o.dst v) w') : o.wp x.P a w K Q := by
 obtain ⟨d, ob, f, caps, ops, o2, ars, bs, r0, hdst, hcal, hob, harg, ho2, hF, hpu, rfl⟩ := h
 obtain ⟨us, u1, u2, u3⟩ := Uo hcal hob hr
 obtain ⟨c1, c2, -⟩ := VF hr harg ho2 rfl u1 u2
 unfold Oper.wp
 rw [u3, hF.ent, Oper.upon_enter]
 refine (hF.run w (calG g [] bs) _ (hr.cal1 _ _) (hr.cal2 (fun b _ => by simp [gvN])) c1 c2).mono ?_
 rintro e w' ⟨v, g', r, outs, rfl, b1, b2, b3, b4, b5, b6, rfl, b7, -⟩
 obtain ⟨ga, q1, q2⟩ := hr.callQ b1 b2 b3 b4 b5 b6 b7 hpu
 exact hK v ga w' q1 q2
theorem WP {M : Md} {x : Cx} (hx : x.P = M.P) {σ : St} {o : Oper} {K0 : St -> Prop} (h : YQ M σ o K0) (hd : ∀ d, o.dst = some d -> d < x.N /\ d < 999) {g : Gh} {a : Act} {w : World} (hr : Rel x g σ a w) {K : Act -> World -> Prop} {Q : Exit -> Act -> World -> Prop}
  (hK : ∀ σ' g' a' w', Rel x g' σ' a' w' -> K0 σ' -> K a' w') : o.wp x.P a w K Q := by
 unfold YQ at h
 split at h
 ·split at h
  ·rename_i o1 σ1 hprep
   split at h
   ·rename_i o0 f caps ops hcal
    split at h
    ·rename_i o2 ars gs bs harg
     obtain ⟨h0, h1, h2, h3, h4, h5, Rs, hF, hKK⟩ := h
     obtain ⟨g1, hr1⟩ := Z1 _ 0 hr hprep h1
     obtain ⟨us, u1, u2, u3⟩ := Uo hcal h0 hr1
     obtain ⟨c1, c2, c3⟩ := VF hr1 harg h2 h3 u1 u2
     have hdis : ∀ b ∈ bs, b ∉ gvN gs := fun b hb hm => xt (List.all_eq_true.1 h5 b hb) b hm rfl
     unfold Oper.wp
     rw [<- hx] at hF
     rw [u3, hF.ent, Oper.upon_enter]
     refine (hF.run w (calG g1 gs bs) _ (hr1.cal1 _ _) (hr1.cal2 hdis) c1 c2).mono ?_
     rintro e w' ⟨v, g', r, outs, rfl, b1, b2, b3, b4, b5, b6, b7, b8, b9⟩
     obtain ⟨hpu, hlen, hre⟩ := hKK r outs b7
     have hdd : o.dst.getD 999 < 1000 := by
      cases hdst : o.dst with
      | none => simp
      | some d => exact Nat.lt_of_lt_of_le (hd d hdst).2 (by decide)
     obtain ⟨ga, q1, q2⟩ := hr1.call hdd h3 h4 hdis c3 b1 b2 b3 b4 b5 b6 b8 b9 hpu hlen
     have q3 := q1.put q2 o.dst (fun d q => (hd d q).1)
     split at hre
     ·rename_i ob σ' hro
      obtain ⟨gb, q4⟩ := W8 gs q3 hro hre.1
      exact hK _ _ _ _ q4 hre.2
     ·exact hre.elim
    ·exact h.elim
   ·exact h.elim
  ·exact h.elim
 ·exact h.elim
theorem Xy {M : Md} {x : Cx} (hx : x.P = M.P) {ops : Array Oper} (hc : chk x.N ops = true) {K : St -> Prop} {Q : Exit -> Act -> World -> Prop} (hQ : ∀ σ' g' a' w', Rel x g' σ' a' w' -> K σ' -> Q .normal a' w') :
  ∀ (l : List Oper), (∀ o ∈ l, ∀ d, o.dst = some d -> d < x.N /\ d < 999) -> ∀ (σ : St) (g : Gh) (a : Act) (w : World), Rel x g σ a w -> aops M ops K l σ -> wpList x.P ops Q l a w
 | [], _, σ, g, a, w, hr, h => hQ σ g a w hr h
 | o :: rest, hl, σ, g, a, w, hr, h => by
  have ih := Xy hx hc hQ rest (fun o' ho' => hl o' (List.mem_cons_of_mem _ ho'))
  have hd := hl o (by simp)
  have hdN : ∀ d, o.dst = some d -> d < x.N := fun d q => (hd d q).1
  simp only [aops, astep] at h
  unfold wpList
  split at h
  ·rename_i hgd
   rw [if_pos (by simp [Region.wanted, hgd])]
   left
   split at h
   ·rename_i ob y hop
    rw [<- hx] at hop
    obtain ⟨r, r1, r2⟩ := YU hop h.1 hr
    unfold Oper.wp
    rw [r1, Oper.upon_value]
    exact ih _ _ _ _ (hr.put r2 o.dst hdN) h.2
   ·split at h
    ·rename_i ob y σ' hop
     rw [<- hx] at hop
     obtain ⟨w', g', r0, r1⟩ := aop2_ok hop h.1 (fun d q => lt_isP (hd d q).2) hr
     unfold Oper.wp
     rcases r1 with ⟨r, r1, r2⟩ | ⟨r1, r2⟩
     ·rw [r1, Oper.upon_value]
      exact ih _ _ _ _ (r0.put r2 o.dst hdN) h.2
     ·rw [r1, Oper.upon_skip]
      exact ih _ _ _ _ (r0.put (y := y) (v := undef) (by rw [r2]; trivial) o.dst hdN) h.2
    ·split at h
     ·rename_i ob y σ' hop
      rw [<- hx] at hop
      obtain ⟨w', g', r0, r, r1, r2⟩ := aop3_ok hop h.1 (fun d q => lt_isP (hd d q).2) hr
      unfold Oper.wp
      rw [r1, Oper.upon_value]
      exact ih _ _ _ _ (r0.put r2 o.dst hdN) h.2
     ·exact WP hx h hd hr (fun σ' g' a' w' h1 h2 => ih σ' g' a' w' h1 h2)
  ·rename_i j want hgd
   split at h
   ·exact h.elim
   ·rename_i c hcg
    have hw : Region.wanted o (yielded ops a.tmps) = c := by
     simp only [Region.wanted, hgd]
     exact grd_ok hr hc hcg
    split at h
    ·rename_i hl
     have hcf : c = false := by
      cases c with
      | true => simp at hl
      | false => rfl
     subst hcf
     rw [if_neg (by rw [hw]; simp)]
     exact ih _ _ _ _ (hr.put (zZ g w _) o.dst hdN) h
    ·cases c with
     | true =>
      rw [if_pos hw]
      left
      split at h
      ·rename_i ob y hop
       rw [<- hx] at hop
       obtain ⟨r, r1, r2⟩ := YU hop (h.1 rfl) hr
       unfold Oper.wp
       rw [r1, Oper.upon_value]
       exact ih _ _ _ _ (hr.put (uj r2) o.dst hdN) h.2
      ·split at h
       ·rename_i ob y hop
        rw [<- hx] at hop
        obtain ⟨r, w', g', r1, r2, r3⟩ := WK hop (h.1 rfl) hr
        unfold Oper.wp
        rw [r1, Oper.upon_value]
        exact ih _ _ _ _ (r2.put (uj r3) o.dst hdN) h.2
       ·split at h
        ·exact WP hx (h.1 rfl) hd hr (fun σ' g' a' w' h1 h2 => ih σ' g' a' w' h1 h2)
        ·obtain ⟨r0, hF, hK⟩ := h
         rw [<- hx] at hF
         exact ZF (hF rfl) hr (fun v g' w' h1 h2 => ih _ _ _ _ (h1.put (uj h2) o.dst hdN) hK)
     | false =>
      rw [if_neg (by rw [hw]; simp)]
      split at h
      ·exact ih _ _ _ _ (hr.put (zZ g w _) o.dst hdN) h.2
      ·split at h
       ·exact ih _ _ _ _ (hr.put (zZ g w _) o.dst hdN) h.2
       ·split at h
        ·exact ih _ _ _ _ (hr.put (zZ g w _) o.dst hdN) (h.2 rfl)
        ·obtain ⟨r0, -, hK⟩ := h
         exact ih _ _ _ _ (hr.put (zZ g w _) o.dst hdN) hK
section
variable {P : Program} {N : Nat} {ops : Array Oper} {K : St -> Prop}
def Yl (P : Program) (N : Nat) (ops : Array Oper) (o : Oper) (σ : St) (y : D) : Prop :=
 ∀ σ' : St, (∀ t ∈ o.looksAt ops, σ'.t t = σ.t t) -> σ'.b = σ.b -> ∀ (x : Cx) (g : Gh) (a : Act) (w : World), x.P = P -> x.N = N -> Rel x g σ' a w ->
  (Region.wanted o (yielded ops a.tmps) = true /\ ∀ (K : Act -> World -> Prop) (Q : Exit -> Act -> World -> Prop), (∀ g' a' w', Rel x g' (σ'.put o.dst y) a' w' -> K a' w') -> o.wp P a w K Q) \/
  (Region.wanted o (yielded ops a.tmps) = false /\ Rel x g (σ'.put o.dst y) (a.put o.dst undef) w)
theorem St.put_comm (σ : St) {d e : Option Tmp} (u v : D) (h : ∀ i, d = some i -> e ≠ some i) : (σ.put d u).put e v = (σ.put e v).put d u := by
 cases d with
 | none => rfl
 | some d =>
  cases e with
  | none => rfl
  | some e =>
   have hne : d ≠ e := fun q => h d rfl (q ▸ rfl)
   simp only [St.put]
   congr 1
   funext i
   by_cases h1 : i = e
   ·simp [h1, Ne.symm hne]
   ·simp [h1]
theorem St.put_other (σ : St) {d : Option Tmp} (u : D) {l : List Tmp} (h : ∀ i, d = some i -> i ∉ l) : ∀ t ∈ l, (σ.put d u).t t = σ.t t := by
 intro t ht
 cases d with
 | none => rfl
 | some d =>
  have : t ≠ d := fun q => h d rfl (q ▸ ht)
  simp [St.put, this]
theorem St.put_b (σ : St) (d : Option Tmp) (u : D) : (σ.put d u).b = σ.b := by cases d <;> rfl
theorem Yl.put {o : Oper} {σ : St} {y : D} (h : Yl P N ops o σ y) {d : Option Tmp} (u : D) (hd : ∀ i, d = some i -> i ∉ o.looksAt ops) : Yl P N ops o (σ.put d u) y := by
 intro σ' h1 h2
 exact h σ' (fun t ht => (h1 t ht).trans (St.put_other σ u hd t ht)) (h2.trans (St.put_b _ _ _))
theorem Yl.unput {o : Oper} {σ : St} {y : D} {d : Option Tmp} {u : D} (h : Yl P N ops o (σ.put d u) y) (hd : ∀ i, d = some i -> i ∉ o.looksAt ops) : Yl P N ops o σ y := by
 intro σ' h1 h2
 exact h σ' (fun t ht => (h1 t ht).trans (St.put_other σ u hd t ht).symm) (h2.trans (St.put_b _ _ _).symm)
end
theorem ev_congr {σ σ' : St} {z : Operand} (h : ∀ t, z = .tmp t -> σ'.t t = σ.t t) : ev σ' z = ev σ z := by
 cases z with
 | tmp t => exact h t rfl
 | const v => rfl
 | global _ => rfl
 | func _ => rfl
theorem zl {ops : Array Oper} {o : Oper} {σ σ' : St} (h : ∀ t ∈ o.looksAt ops, σ'.t t = σ.t t) : ∀ z ∈ o.op.operands, ev σ' z = ev σ z := fun z hz =>
 ev_congr fun t ht => h t (by
  subst ht
  exact List.mem_append_left _ (List.mem_filterMap.2 ⟨.tmp t, by simpa using hz, rfl⟩))
theorem QL {P : Program} {σ σ' : St} (hb : σ'.b = σ.b) (t : TypeId) (x : D) : uS P σ' t x = uS P σ t x := by unfold uS; rw [hb]
theorem Q6 {P : Program} {σ σ' : St} (op : Op) (h : ∀ z ∈ op.operands, ev σ' z = ev σ z) (hb : σ'.b = σ.b) : aop1 P σ' op = aop1 P σ op := by
 cases op <;> simp only [Op.operands] at h <;> simp only [aop1]
 case slice t x lo hi mx =>
  cases mx with
  | some _ => rfl
  | none =>
   have hx := h x (by simp)
   cases lo <;> cases hi <;> simp_all
 case call c =>
  obtain ⟨callee, args, ts⟩ := c
  cases callee with
  | builtin b =>
   cases b <;> try rfl
   simp only [aop1]
   cases ha : args.toList with
   | nil => rfl
   | cons z l =>
    cases l with
    | nil =>
     cases ht : ts.toList with
     | nil => rfl
     | cons t l' =>
      cases l' with
      | nil => dsimp only; rw [h z (by simp [Call.operands, <- Array.mem_toList_iff, ha])]
      | cons _ _ => rfl
    | cons _ _ => rfl
  | value _ => rfl
  | invoke _ _ => rfl
 all_goals (first | rfl | (simp only [QL hb]; simp_all; done) | (simp_all; done))
theorem Zi {σ σ' : St} : ∀ (l : List Operand), (∀ z ∈ l, ev σ' z = ev σ z) -> vL σ' l = vL σ l
 | [], _ => rfl
 | z :: l, h => by
  unfold vL
  rw [h z (by simp), Zi l (fun y hy => h y (by simp [hy]))]
theorem Wf {P : Program} {σ σ' : St} (op : Op) (h : ∀ z ∈ op.operands, ev σ' z = ev σ z) (hb : σ'.b = σ.b) : aopP P σ' op = aopP P σ op := by
 unfold aopP
 rw [Q6 op h hb]
 split
 ·rfl
 ·unfold aopF
  cases op <;> try rfl
  rename_i fn first caps _
  cases fn <;> try rfl
  simp only [Op.operands] at h
  try dsimp only
  rw [Zi _ (fun z hz => h z (by simp; right; simpa using hz))]
theorem grd_congr {ops : Array Oper} {o : Oper} {σ σ' : St} (h : ∀ t ∈ o.looksAt ops, σ'.t t = σ.t t) {j : Nat} {want : Bool} (hg : o.guard = some (j, want)) : grd ops σ' j want = grd ops σ j want := by
 unfold grd
 cases hd : YY ops j with
 | none => rfl
 | some t => dsimp only; rw [h t (by unfold YY at hd; simp [Oper.looksAt, hg, hd])]
section
variable {σ σ' : St} (hb : σ'.b = σ.b)
include hb
theorem fdC_b (c : D) : fdC σ' c = fdC σ c := by cases c <;> first | rfl | simp only [fdC, hb]
theorem YZ : ∀ l : List D, fdL σ' l = fdL σ l
 | [] => rfl
 | c :: l => by unfold fdL; rw [fdC_b hb, YZ l]
theorem fdB_b (c : D) : fdB σ' c = fdB σ c := by
 cases c <;> first | (simp only [fdB]; exact fdC_b hb _) | (simp only [fdB, hb, YZ hb]; done)
theorem idB_b (c : D) : idB σ' c = idB σ c := by cases c <;> first | rfl | simp only [idB, hb]
theorem argC_b (m : Nat) (c : D) : argC σ' m c = argC σ m c := by unfold argC; rw [fdC_b hb, fdB_b hb]
theorem argL_b (m : Nat) : ∀ l : List D, argL σ' m l = argL σ m l
 | [] => rfl
 | c :: l => by unfold argL; rw [argC_b hb, argL_b m l]
theorem argD_b (m : Nat) (c : D) : argD σ' m c = argD σ m c := by cases c <;> first | rfl | (simp only [argD]; exact argC_b hb m _) | (simp only [argD, argL_b hb]; done)
theorem bsL_b : ∀ l : List D, bsL σ' l = bsL σ l
 | [] => rfl
 | c :: l => by unfold bsL; rw [idB_b hb, bsL_b l]
theorem uv (md : List Nat) : ∀ (l : List Operand) (j : Nat), (∀ z ∈ l, ev σ' z = ev σ z) -> wb σ' md j l = wb σ md j l
 | [], _, _ => rfl
 | z :: l, j, h => by
  unfold wb
  rw [h z (by simp), argD_b hb, bsL_b hb, uv md l (j + 1) (fun y hy => h y (by simp [hy]))]
theorem Xf {k : Nat} : ∀ (l : List (Nat × Operand)) (j : Nat), (∀ z ∈ l, ev σ' z.2 = ev σ z.2) -> uw σ' k j l = uw σ k j l
 | [], _, _ => rfl
 | (i, z) :: l, j, h => by
  unfold uw
  rw [h (i, z) (by simp), Xf l (j + 1) (fun y hy => h y (by simp [hy]))]
  simp only [YZ hb]
omit hb in
theorem Xe {fs : List (Nat × Nat × Bool)} : ∀ (l : List (Nat × Operand)) (cells : List D), (∀ z ∈ l, ev σ' z.2 = ev σ z.2) -> vM σ' fs cells l = vM σ fs cells l
 | [], _, _ => rfl
 | (i, z) :: l, cells, h => by
  have e : ev σ' z = ev σ z := h (i, z) (by simp)
  unfold vM
  rw [e]
  cases fs[i]? with
  | none => rfl
  | some p =>
   obtain ⟨off, sz, ag⟩ := p
   cases uG (xu (ev σ z)) with
   | none => rfl
   | some xs => simp only [Xe l _ (fun y hy => h y (by simp [hy]))]
theorem We {P : Program} (op : Op) (h : ∀ z ∈ op.operands, ev σ' z = ev σ z) : aopB P σ' op = aopB P σ op := by
 unfold aopB
 cases op <;> try rfl
 ·rename_i t parts
  simp only [Op.operands] at h
  simp only [wM]
  cases tk P t <;> try rfl
  simp only
  rw [Xe _ _ (fun z hz => h z.2 (by simp; exact ⟨z.1, by simpa using hz⟩))]
 ·rename_i t len parts
  simp only [Op.operands] at h
  dsimp only
  cases tk P t <;> try rfl
  dsimp only
  rw [Xf hb _ _ (fun z hz => h z.2 (by simp; exact ⟨z.1, by simpa using hz⟩))]
omit hb in
theorem vN (op : Op) (h : ∀ z ∈ op.operands, ev σ' z = ev σ z) : aFn σ' op = aFn σ op := by
 unfold aFn
 cases op <;> try rfl
 rename_i c
 obtain ⟨callee, args, ts⟩ := c
 cases callee <;> try rfl
 rename_i fo
 simp only [Op.operands, Call.operands] at h
 dsimp only
 rw [h fo (by simp)]
theorem srcK_b (k : Nat) (c : D) : srcK σ' k c = srcK σ k c := by cases c <;> first | rfl | simp only [srcK, hb]
end
theorem YT {σ : St} {op : Op} {ob : Prop} {f : FuncId} {caps : List D} {l : List Operand} (h : aFn σ op = some (ob, f, caps, l)) : ∀ z ∈ l, z ∈ op.operands := by
 unfold aFn at h
 split at h
 ·rename_i fo args ts
  split at h
  ·injection h with h; injection h with e1 e2; injection e2 with e2 e3; injection e3 with e3 e4
   subst e4
   intro z hz
   simp only [Op.operands, Call.operands]
   simp; right; simpa using hz
  ·cases h
 ·cases h
def Ef (θ : D -> D) (B : Nat -> Option Ob) (dst : Option Tmp) (Y : D) (σ : St) : St := (St.mk (fun i => θ (σ.t i)) B).put dst Y
theorem Ef_put {θ : D -> D} {B : Nat -> Option Ob} {dst : Option Tmp} {Y : D} (σ : St) (d : Option Tmp) (z : D) (h : d ≠ none -> d ≠ dst) : Ef θ B dst Y (σ.put d z) = (Ef θ B dst Y σ).put d (θ z) := by
 cases d with
 | none => rfl
 | some d =>
  have h := h (by simp)
  cases dst with
  | none =>
   simp only [Ef, St.put]
   congr 1
   funext i
   by_cases e : i = d <;> simp [e]
  | some e' =>
   have hne : d ≠ e' := fun q => h (by rw [q])
   simp only [Ef, St.put]
   congr 1
   funext i
   by_cases e1 : i = e'
   ·subst e1; simp [Ne.symm hne]
   ·by_cases e : i = d <;> simp [e, e1, hne]
def Shp {α : Type} (σ : St) (R : St -> Prop) (F : St -> Option (α × St)) (a : α) : Prop := ∃ (θ : D -> D) (B : Nat -> Option Ob), ∀ τ : St, τ.b = σ.b -> R τ -> F τ = some (a, ⟨fun i => θ (τ.t i), B⟩)
theorem foldB_shp {σ σ' : St} {id : Nat} {ob : Prop} {ds : List D} (h : foldB σ id = some (ob, ds, σ')) : ∃ (θ : D -> D) (B : Nat -> Option Ob), ∀ τ : St, τ.b = σ.b -> foldB τ id = some (ob, ds, ⟨fun i => θ (τ.t i), B⟩) := by
 unfold foldB at h
 split at h
 ·rename_i row hb
  split at h
  ·rename_i ob' ds' hf
   injection h with h; injection h with e1 e2; injection e2 with e2 e3
   subst e1 e2 e3
   refine ⟨scT (pOut (idsC row)), ((σ.sc (pOut (idsC row)) (pOut (idsC row))).setB id (.box ds')).b, fun τ hτ => ?_⟩
   unfold foldB
   simp only [hτ, hb, YZ hτ, hf]
   congr 3
   unfold St.setB St.sc
   simp only [hτ]
  ·cases h
 ·cases h
theorem prepC_shp {σ σ' : St} {m : Nat} {c : D} {ob : Prop} (h : yA σ m c = some (ob, σ')) : Shp σ (fun _ => True) (fun τ => yA τ m c) ob := by
 have same : yA σ m c = some (ob, σ) -> (∀ τ : St, τ.b = σ.b -> ∃ o, yA τ m c = some (o, τ) /\ o = ob) -> Shp σ (fun _ => True) (fun τ => yA τ m c) ob := fun h1 h2 => by
  refine ⟨fun y => y, σ.b, fun τ hτ _ => ?_⟩
  obtain ⟨o, q1, rfl⟩ := h2 τ hτ
  show yA τ m c = _
  rw [q1, <- hτ]
 unfold yA at h
 split at h
 ·rename_i hid
  injection h with h; injection h with e1 e2; subst e1 e2
  exact same (by unfold yA; rw [hid]) (fun τ hτ => ⟨True, by unfold yA; rw [hid], rfl⟩)
 ·rename_i id hid
  split at h
  ·rename_i row hb
   split at h
   ·rename_i ob' ds σ1 hf
    injection h with h; injection h with e1 e2
    subst e1
    obtain ⟨θ, B, hs⟩ := foldB_shp hf
    by_cases hm : m = 2
    ·refine ⟨fun y => frT id (.box ds) (θ y), fun i => if i = id then none else (B i).map (frO id (.box ds)), fun τ hτ _ => ?_⟩
     show yA τ m c = _
     unfold yA
     simp only [hid, hτ, hb, hs τ hτ, if_pos hm]
     rfl
    ·refine ⟨θ, B, fun τ hτ _ => ?_⟩
     show yA τ m c = _
     unfold yA
     simp only [hid, hτ, hb, hs τ hτ, if_neg hm]
   ·cases h
  ·rename_i e k rows hb
   injection h with h; injection h with e1 e2
   subst e1
   by_cases hm : m = 2
   ·refine ⟨fun y => frT id (.arr e k rows) y, fun i => if i = id then none else (σ.b i).map (frO id (.arr e k rows)), fun τ hτ _ => ?_⟩
    show yA τ m c = _
    unfold yA
    simp only [hid, hτ, hb, if_pos hm]
    unfold St.fr
    simp only [hτ]
   ·rw [if_neg hm] at e2
    subst e2
    exact same (by unfold yA; simp only [hid, hb, if_neg hm]) (fun τ hτ => ⟨True, by unfold yA; simp only [hid, hτ, hb, if_neg hm], rfl⟩)
  ·cases h
theorem U8 {m : Nat} : ∀ (l : List D) {σ σ' : St} {ob : Prop}, uA m l σ = some (ob, σ') -> Shp σ (fun _ => True) (fun τ => uA m l τ) ob
 | [], σ, σ', ob, h => by
  injection h with h; injection h with e1 e2; subst e1 e2
  exact ⟨fun y => y, σ.b, fun τ hτ _ => by show some (True, τ) = _; rw [<- hτ]⟩
 | c :: l, σ, σ', ob, h => by
  unfold uA at h
  split at h
  ·rename_i o1 σ1 h1
   split at h
   ·rename_i o2 σ2 h2
    injection h with h; injection h with e1 e2
    subst e1 e2
    obtain ⟨θ, B, hs⟩ := prepC_shp h1
    have e := hs σ rfl trivial
    simp only [h1] at e
    injection e with e; injection e with _ e
    obtain ⟨θ2, B2, hs2⟩ := U8 l h2
    refine ⟨fun y => θ2 (θ y), B2, fun τ hτ _ => ?_⟩
    show uA m (c :: l) τ = _
    unfold uA
    have q1 := hs τ hτ trivial
    have q2 := hs2 ⟨fun i => θ (τ.t i), B⟩ (by rw [e]) trivial
    simp only at q1 q2
    simp only [q1, q2]
   ·cases h
  ·cases h
theorem ev_th {σ τ : St} {θ : D -> D} {B B' : Nat -> Option Ob} {z : Operand} (h : ev τ z = ev σ z) : ev ⟨fun i => θ (τ.t i), B⟩ z = ev ⟨fun i => θ (σ.t i), B'⟩ z := by
 cases z with
 | tmp t => exact congrArg θ h
 | const v => rfl
 | func f => rfl
 | global _ => rfl
theorem YJ {md : List Nat} : ∀ (l : List Operand) (j : Nat) {σ σ' : St} {ob : Prop}, zO md j l σ = some (ob, σ') -> Shp σ (fun τ => ∀ z ∈ l, ev τ z = ev σ z) (fun τ => zO md j l τ) ob
 | [], j, σ, σ', ob, h => by
  injection h with h; injection h with e1 e2; subst e1 e2
  exact ⟨fun y => y, σ.b, fun τ hτ _ => by show some (True, τ) = _; rw [<- hτ]⟩
 | z :: l, j, σ, σ', ob, h => by
  unfold zO at h
  split at h
  ·rename_i hm
   obtain ⟨θ, B, hs⟩ := YJ l (j + 1) h
   refine ⟨θ, B, fun τ hτ hv => ?_⟩
   show zO md j (z :: l) τ = _
   unfold zO
   rw [if_pos hm]
   exact hs τ hτ (fun y hy => hv y (by simp [hy]))
  ·rename_i hm
   split at h
   ·rename_i o1 σ1 h1
    split at h
    ·rename_i o2 σ2 h2
     injection h with h; injection h with e1 e2
     subst e1 e2
     obtain ⟨θ, B, hs⟩ := U8 _ h1
     have e := hs σ rfl trivial
     simp only [h1] at e
     injection e with e; injection e with _ e
     obtain ⟨θ2, B2, hs2⟩ := YJ l (j + 1) h2
     refine ⟨fun y => θ2 (θ y), B2, fun τ hτ hv => ?_⟩
     show zO md j (z :: l) τ = _
     unfold zO
     rw [if_neg hm, hv z (by simp)]
     have q1 := hs τ hτ trivial
     have q2 := hs2 ⟨fun i => θ (τ.t i), B⟩ (by rw [e]) (fun y hy => by rw [e]; exact ev_th (hv y (by simp [hy])))
     simp only at q1 q2
     simp only [q1, q2]
    ·cases h
   ·cases h
theorem Z3 : ∀ (l : List Gv) {σ σ' : St} {ob : Prop}, reop l σ = some (ob, σ') -> Shp σ (fun _ => True) (fun τ => reop l τ) ob
 | [], σ, σ', ob, h => by
  injection h with h; injection h with e1 e2; subst e1 e2
  exact ⟨fun y => y, σ.b, fun τ hτ _ => by show some (True, τ) = _; rw [<- hτ]⟩
 | (i, j, l') :: l, σ, σ', ob, h => by
  unfold reop at h
  split at h
  ·rename_i row hb
   split at h
   ·rename_i o σ1 h1
    injection h with h; injection h with e1 e2
    subst e1 e2
    obtain ⟨θ, B, hs⟩ := Z3 l h1
    refine ⟨fun y => θ (scT (pUn i row) y), B, fun τ hτ _ => ?_⟩
    show reop ((i, j, l') :: l) τ = _
    unfold reop
    have q := hs (τ.unfB i row) (by unfold St.unfB; simp only [hτ]) trivial
    simp only at q
    simp only [hτ, hb, q]
    rfl
   ·cases h
  ·rename_i hno
   obtain ⟨θ, B, hs⟩ := Z3 l h
   refine ⟨θ, B, fun τ hτ _ => ?_⟩
   show reop ((i, j, l') :: l) τ = _
   have q := hs τ hτ trivial
   unfold reop
   rw [hτ]
   split
   ·rename_i row hb; exact absurd hb (hno row)
   ·exact q
end
end Go.Proofs.YtmnokalddmlogaaGreat
