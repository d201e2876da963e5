import Derived.Test.YthkgncddilkmbaaGj2
/- The second engine, eleventh part: what is frozen; boxes closed and opened. -/
namespace Go.Proofs.Ythkgncddilkmbaa
set_option linter.unusedVariables false
set_option linter.unusedSimpArgs false
open Go.RowKit
mutual
/-- owned data, seen as frozen. -/
def frz : D → D
  | .osl _ k rows => .sl k (frzLL rows)
  | .opt row => .pt (frzL row)
  | .s v => .s v
  | .nil => .nil
  | .np => .np
  | .sl k rows => .sl k rows
  | .pt row => .pt row
  | .fn f caps => .fn f caps
  | .bx _ _ => .un
  | .el _ _ _ _ => .un
  | .bs _ _ _ => .un
  | .ag _ => .un
  | .un => .un
  | .tup _ => .un
  | .mb _ _ => .un
def frzL : List D → List D
  | [] => []
  | d :: l => frz d :: frzL l
def frzLL : List (List D) → List (List D)
  | [] => []
  | r :: l => frzL r :: frzLL l
end
theorem frzL_map (l : List D) : frzL l = l.map frz := by
  induction l with
  | nil => rfl
  | cons d l ih => simp only [frzL, List.map_cons, ih]
theorem frzLL_map (l : List (List D)) : frzLL l = l.map frzL := by
  induction l with
  | nil => rfl
  | cons d l ih => simp only [frzLL, List.map_cons, ih]
theorem frzL_len (l : List D) : (frzL l).length = l.length := by rw [frzL_map, List.length_map]
theorem frzLL_len (l : List (List D)) : (frzLL l).length = l.length := by rw [frzLL_map, List.length_map]
/-- blocks that hang on names. -/
inductive Und (up : Nat → Option Pos) (R : Nat → Prop) : Nat → Prop where
  | root {b id : Nat} : up b = some (.root id) → R id → Und up R b
  | cell {b b' o : Nat} : up b = some (.cell b' o) → Und up R b' → Und up R b
def PU (up : Nat → Option Pos) (R : Nat → Prop) : Pos → Prop
  | .root id => R id
  | .cell b _ => Und up R b
  | .ans _ _ => False
  | .par _ _ => False
theorem und_iff {up : Nat → Option Pos} {R : Nat → Prop} {b : Nat} {p : Pos} (h : up b = some p) : Und up R b ↔ PU up R p := by
  constructor
  · intro q
    cases q with
    | root h' r => rw [h] at h'; injection h' with h'; subst h'; exact r
    | cell h' r => rw [h] at h'; injection h' with h'; subst h'; exact r
  · intro q
    cases p with
    | root id => exact .root h q
    | cell b' o => exact .cell h q
    | ans _ _ => exact q.elim
    | par _ _ => exact q.elim
theorem Rep.froz {S S' : Nat → Prop} {up up' : Nat → Option Pos} {w : World} {R : Nat → Prop} (hS : ∀ b, S b → S' b) (hU : ∀ b, Und up R b → S' b) {p : Option Pos} {d : D} {v : Value} (h : Rep S up w p d v) (hp : ∀ q, p = some q → PU up R q) : Rep S' up' w none (frz d) v := by
  have keep : ∀ {p : Option Pos} {d : D} {v : Value}, Rep S up w p d v → p = none → Rep S' up' w none d v := by
    intro p d v h hp
    have m : Mv (fun _ => False) (fun p => p) ⟨fun _ => none, fun _ => 0, up, S⟩ ⟨fun _ => none, fun _ => 0, up', S'⟩ w w := ⟨fun b hb => ⟨hS b hb, rfl⟩, fun b p _ q => q.elim, fun b p o _ q => q.elim⟩
    have := Rep.move (g := ⟨fun _ => none, fun _ => 0, up, S⟩) m h (fun q hq => by rw [hp] at hq; cases hq)
    rw [hp] at this; exact this
  induction h with
  | s h => exact .s h
  | nil => exact .nil
  | np => exact .np
  | sl0 h => exact .sl0 h
  | sl us h1 h2 h3 h4 h5 _ => exact .sl us h1 h2 h3 (fun i j row d r1 r2 => ⟨hS _ (h4 i j row d r1 r2).1, (h4 i j row d r1 r2).2⟩) (fun i j row d r1 r2 => keep (h5 i j row d r1 r2) rfl)
  | pt us h1 h2 _ => exact .pt us (fun j d r => ⟨hS _ (h1 j d r).1, (h1 j d r).2⟩) (fun j d r => keep (h2 j d r) rfl)
  | fn us h _ => exact .fn us (fun j d r => keep (h j d r) rfl)
  | osl0 => exact .sl0 (by decide)
  | @osl p e k rows b c cs h1 h2 h3 h4 h5 h6 _ ih =>
    have hb : Und up R b := (und_iff h1).2 (hp p rfl)
    have hrow : ∀ (i : Nat) (row : List D), (frzLL rows)[i]? = some row → ∃ row0, rows[i]? = some row0 ∧ row = frzL row0 := by
      intro i row hi
      rw [frzLL_map, List.getElem?_map] at hi
      obtain ⟨r0, q1, q2⟩ := Option.map_eq_some_iff.1 hi
      exact ⟨r0, q1, q2.symm⟩
    have hcell : ∀ (i j : Nat) (row : List D) (d : D), (frzLL rows)[i]? = some row → row[j]? = some d → ∃ row0 d0, rows[i]? = some row0 ∧ row0[j]? = some d0 ∧ d = frz d0 := by
      intro i j row d hi hj
      obtain ⟨r0, q1, rfl⟩ := hrow i row hi
      rw [frzL_map, List.getElem?_map] at hj
      obtain ⟨d0, q2, q3⟩ := Option.map_eq_some_iff.1 hj
      exact ⟨r0, d0, q1, q2, q3.symm⟩
    simp only [frz]
    have key := Rep.sl (S := S') (up := up') (w := w) (p := none) (k := k) (rows := frzLL rows) (b := b) (off := 0) (c := c) (fun i j => cs.getD (i * k + j) undef) (by rw [frzLL_len]; exact h3) h4 (fun i row hi => by
      obtain ⟨r0, q1, rfl⟩ := hrow i row hi
      rw [frzL_len]; exact h6 i r0 q1) (fun i j row d hi hj => ⟨hU b hb, by
      obtain ⟨r0, d0, q1, q2, -⟩ := hcell i j row d hi hj
      have hjk : j < k := by rw [← h6 i r0 q1]; exact (List.getElem?_eq_some_iff.1 q2).1
      have hik := (List.getElem?_eq_some_iff.1 q1).1
      have hlt : i * k + j < cs.size := by
        have h1 : (i + 1) * k ≤ c * k := Nat.mul_le_mul_right _ (by omega)
        rw [Nat.add_mul, Nat.one_mul] at h1; omega
      simp only [World.cell?, h2, Nat.zero_add]
      rw [if_neg (by simp)]
      exact agetD_of hlt⟩) (fun i j row d hi hj => by
      obtain ⟨r0, d0, q1, q2, rfl⟩ := hcell i j row d hi hj
      exact ih i j r0 d0 q1 q2 (fun q hq => by injection hq with hq; subst hq; exact hb))
    rw [frzLL_len] at key; exact key
  | @opt p row b ty cs h1 h2 h3 _ ih =>
    have hb : Und up R b := (und_iff h1).2 (hp p rfl)
    have hcell : ∀ (j : Nat) (d : D), (frzL row)[j]? = some d → ∃ d0, row[j]? = some d0 ∧ d = frz d0 := by
      intro j d hj
      rw [frzL_map, List.getElem?_map] at hj
      obtain ⟨d0, q2, q3⟩ := Option.map_eq_some_iff.1 hj
      exact ⟨d0, q2, q3.symm⟩
    simp only [frz]
    refine Rep.pt (fun j => cs.getD j undef) (fun j d hj => ⟨hU b hb, ?_⟩) (fun j d hj => ?_)
    · obtain ⟨d0, q1, -⟩ := hcell j d hj
      have hlt : j < cs.size := by rw [h3]; exact (List.getElem?_eq_some_iff.1 q1).1
      simp only [World.cell?, h2, Nat.zero_add]
      rw [if_neg (by simp)]
      exact agetD_of hlt
    · obtain ⟨d0, q1, rfl⟩ := hcell j d hj
      exact ih j d0 q1 (fun q hq => by injection hq with hq; subst hq; exact hb)
/-- an object that is written no more: refs become what it holds. -/
def frC (id : Nat) (o : Ob) : D → D
  | .bs i k n => if i = id then (match o with
    | .arr _ k' rows => if k' = k ∧ n ≤ rows.length then .sl k (frzLL (rows.take n)) else .un
    | _ => .un) else .bs i k n
  | .bx i off => if i = id then (match o with
    | .box row => .pt (frzL (row.drop off))
    | _ => .un) else .bx i off
  | .el i k j off => if i = id then (match o with
    | .arr _ k' rows => if k' = k ∧ j < rows.length then .pt (frzL ((rows.getD j []).drop off)) else .un
    | _ => .un) else .el i k j off
  | d => d
def frE (id : Nat) (o : Ob) : D → D
  | .ag xs => .ag (xs.map (frC id o))
  | d => frC id o d
def frT (id : Nat) (o : Ob) : D → D
  | .tup xs => .tup (xs.map (frE id o))
  | .mb c x => .mb c (frE id o x)
  | d => frE id o d
def frO (id : Nat) (o : Ob) : Ob → Ob
  | .box row => .box (row.map (frC id o))
  | .arr e k rows => .arr e k rows
  | .hol e k rows i c r => .hol e k rows i c (frC id o r)
def St.fr (σ : St) (id : Nat) (o : Ob) : St := ⟨fun i => frT id o (σ.t i), fun i => if i = id then none else (σ.b i).map (frO id o)⟩
def deepO : Ob → Bool
  | .box row => row.all deepB
  | .arr _ _ _ => true
  | .hol _ _ _ _ _ _ => false
theorem frzL_drop (l : List D) (n : Nat) : frzL (l.drop n) = (frzL l).drop n := by rw [frzL_map, frzL_map, List.map_drop]
theorem frzLL_take (l : List (List D)) (n : Nat) : frzLL (l.take n) = (frzLL l).take n := by rw [frzLL_map, frzLL_map, List.map_take]
theorem Rel.freeze {x : Cx} {g : Gh} {σ : St} {a : Act} {w : World} (h : Rel x g σ a w) (id : Nat) (o : Ob) (ho : σ.b id = some o) (hd : deepO o = true) : ∃ g', Rel x g' (σ.fr id o) a w := by
  classical
  let R : Nat → Prop := fun i => i = id
  let g' : Gh := ⟨g.β, g.κ, fun b => if Und g.up R b then none else g.up b, fun b => g.S b ∨ Und g.up R b⟩
  have hlt : ∀ b, Und g.up R b → b < w.heap.size ∧ (b < x.w0.heap.size → x.G b) := fun b q => by
    cases q with
    | root h' _ => exact ⟨(h.own b _ h').1, (h.own b _ h').2.1⟩
    | cell h' _ => exact ⟨(h.own b _ h').1, (h.own b _ h').2.1⟩
  have ev : Ev (fun p => ¬ PU g.up R p) (fun p => p) pAll (fun i => decide (i ≠ id)) g g' w w := by
    refine ⟨⟨fun b hb => ⟨.inl hb, rfl⟩, fun b p hp ho => ⟨?_, rfl⟩, fun b p o hp ho => ⟨fun q => ho ((und_iff hp).1 q), rfl⟩⟩, fun i _ => ⟨rfl, rfl⟩, fun i hi => ⟨rfl, fun q => ?_, rfl⟩⟩
    · show (if Und g.up R b then none else g.up b) = _
      rw [if_neg (fun q => ho ((und_iff hp).1 q))]; exact hp
    · simp only [decide_eq_true_eq] at hi
      exact hi q
  have hR := h.ev ev (Below.refl _ _) (fun b _ _ => rfl) (fun b hb hs => hs.elim .inl (fun q => .inr ((hlt b q).2 hb))) (fun b hs => hs.elim (h.new b) (fun q => (hlt b q).1)) (fun b p hp => by
    simp only [g'] at hp
    split at hp
    · cases hp
    · rename_i q
      obtain ⟨o1, o2, o3⟩ := h.own b p hp
      exact ⟨o1, o2, fun r => r.elim o3 q⟩)
  have hC : ∀ {p : Option Pos} (y : D) (v : Value), RC g w p y v → RC g' w p (scC pAll y) v → RC g' w p (frC id o y) v := by
    intro p y v h1 h2
    rw [scC_all] at h2
    have hob := h.ob id o ho
    cases y with
    | bs i k n =>
      simp only [frC]
      split
      · rename_i e
        subst e
        obtain ⟨rfl, h3, h4, h5⟩ := h1
        split
        · rename_i e' k' rows
          split
          · rename_i hc
            obtain ⟨rfl, hn⟩ := hc
            have := (Rep.osl_take hob n hn).froz (S' := g'.S) (up' := g'.up) (R := R) (fun b => .inl) (fun b => .inr) (fun q hq => by injection hq with hq; subst hq; exact rfl)
            exact (this.any p).rc
          · rfl
        · rfl
      · exact h2
    | bx i off =>
      simp only [frC]
      split
      · rename_i e
        subst e
        obtain ⟨b, h3, rfl⟩ := h1
        split
        · rename_i row
          obtain ⟨b', cs, ty, b1, b2, b3, b4, b5⟩ := hob
          rw [b1] at h3; injection h3 with h3; subst h3
          have hrep : Rep g.S g.up w (some (.root i)) (.opt row) (.pointer (some ⟨b', 0, none⟩)) := .opt cs b2 b3 b4 fun j d hj => (b5 j d hj).deep (List.all_eq_true.1 hd d (List.mem_of_getElem? hj))
          have := hrep.froz (S' := g'.S) (up' := g'.up) (R := R) (fun b => .inl) (fun b => .inr) (fun q hq => by injection hq with hq; subst hq; exact rfl)
          have := (Rep.pt_drop this off).any p
          rw [Nat.zero_add, ← frzL_drop] at this
          exact this.rc
        · rfl
      · exact h2
    | el i k j off =>
      simp only [frC]
      split
      · rename_i e
        subst e
        obtain ⟨b, h3, rfl⟩ := h1
        split
        · rename_i e' k' rows
          split
          · rename_i hc
            obtain ⟨rfl, hn⟩ := hc
            have hob : Rep g.S g.up w (some (.root i)) (.osl e' k' rows) (.slice ((g.β i).map fun b => ⟨b, 0, none⟩) rows.length (g.κ i)) := hob
            rw [h3, Option.map_some] at hob
            have := hob.froz (S' := g'.S) (up' := g'.up) (R := R) (fun b => .inl) (fun b => .inr) (fun q hq => by injection hq with hq; subst hq; exact rfl)
            obtain ⟨ad, q1, -, q2⟩ := Rep.row (p := none) this j (by rw [frzLL_len]; exact hn)
            injection q1 with q1
            subst q1
            have hg : rows[j]? = some rows[j] := List.getElem?_eq_getElem hn
            have hgd : (frzLL rows).getD j [] = frzL (rows.getD j []) := by
              rw [getD_of hg, List.getD_eq_getElem?_getD, frzLL_map, List.getElem?_map, hg]; rfl
            rw [hgd, add_lit, Nat.zero_add] at q2
            have := (Rep.pt_drop q2 off).any p
            rw [← frzL_drop] at this
            exact this.rc
          · rfl
        · rfl
      · exact h2
    | _ => exact h2
  have hE : ∀ (y : D) (v : Value), RE g w y v → RE g' w (frE id o y) v := by
    intro y v hy
    have h2 := hy.ev ev
    cases y with
    | ag xs =>
      obtain ⟨us, rfl, u1, u2⟩ := hy
      refine ⟨us, rfl, by simp [u1], fun j z u hz hu => ?_⟩
      rw [List.getElem?_map] at hz
      obtain ⟨y0, q1, rfl⟩ := Option.map_eq_some_iff.1 hz
      have h3 := u2 j y0 u q1 hu
      exact hC y0 u h3 (h3.ev ev (p := none) (fun z hz => by cases hz))
    | un => trivial
    | _ =>
      simp only [RE] at hy
      exact (hC _ v hy (hy.ev ev (p := none) (fun z hz => by cases hz))).re
  refine ⟨g', hR.bel, hR.fr, hR.dfr, hR.sz, fun i => ?_, hR.s0, hR.old, hR.new, hR.own, fun i o' hi => ?_, fun i o' hi hq => ?_⟩
  · have hi := h.tm i
    show RT g' w (frT id o (σ.t i)) _
    generalize σ.t i = y at hi
    cases y with
    | tup xs =>
      obtain ⟨us, hv, u1, u2⟩ := hi
      refine ⟨us, hv, by simp [u1], fun j z u hz hu => ?_⟩
      rw [List.getElem?_map] at hz
      obtain ⟨y0, q1, rfl⟩ := Option.map_eq_some_iff.1 hz
      exact hE y0 u (u2 j y0 u q1 hu)
    | mb c y => exact ⟨fun hc => hE y _ (hi.1 hc), hi.2⟩
    | _ => simp only [RT] at hi; exact (hE _ _ hi).rt
  · simp only [St.fr] at hi
    split at hi
    · cases hi
    · rename_i hne
      obtain ⟨o0, q1, rfl⟩ := Option.map_eq_some_iff.1 hi
      have h1 := h.ob i o0 q1
      have h2 := h1.ev ev (id := i) (by simpa using hne)
      cases o0 with
      | arr e k rows => exact h2
      | hol e k rows i0 c0 r =>
        obtain ⟨b, cs, b1, b2, b3, b4, b5, b6, b7, b8, b9, b10, b11⟩ := h1
        obtain ⟨b', cs', c1, c2, c3, c4, c5, c6, c7, c8, c9, c10, c11⟩ := h2
        have : g'.β = g.β := rfl
        rw [this, b1] at c1; injection c1 with c1; subst c1
        rw [b3] at c3; injection c3 with c3; injection c3 with c3 c12; subst c3
        exact ⟨b, cs, b1, c2, b3, b4, b5, b6, b7, b8, b9, hC r _ b10 c10, c11⟩
      | box row =>
        obtain ⟨b, cs, ty, b1, b2, b3, b4, b5⟩ := h1
        obtain ⟨b', cs', ty', c1, c2, c3, c4, c5⟩ := h2
        have : g'.β = g.β := rfl
        rw [this, b1] at c1; injection c1 with c1; subst c1
        rw [b3] at c3; injection c3 with c3; injection c3 with c3 c6; subst c3
        refine ⟨b, cs, ty, b1, c2, b3, by simp [b4], fun j d hj => ?_⟩
        rw [List.getElem?_map] at hj
        obtain ⟨d0, q2, rfl⟩ := Option.map_eq_some_iff.1 hj
        have := c5 j (scC pAll d0) (by rw [List.getElem?_map, q2]; rfl)
        exact hC d0 _ (b5 j d0 q2) this
  · simp only [St.fr] at hi
    split at hi
    · cases hi
    · obtain ⟨o0, q1, -⟩ := Option.map_eq_some_iff.1 hi
      exact h.par i o0 q1 hq
end Go.Proofs.Ythkgncddilkmbaa
