import Derived.Test.YtgcdbmcoendcdaaGreatGiB
/- The second engine, eleventh part: what is frozen; boxes closed and opened. -/
set_option maxHeartbeats 1000000
namespace Go.Proofs.YtgcdbmcoendcdaaGreat
set_option linter.unusedVariables false
set_option linter.unusedSimpArgs false
open Go.RowKit
mutual
def frz : D → D
  | .osl _ k rows => .sl k (frzLL rows)
  | .opt row => .pt (frzL row)
  | .s v => .s v
  | .nil => .nil
  | .np => .np
  | .sl k rows => .sl k rows
  | .pt row => .pt row
  | .fn f caps => .fn f caps
  | .bx _ _ => .un
  | .el _ _ _ _ => .un
  | .bs _ _ _ => .un
  | .ag _ => .un
  | .un => .un
  | .tup _ => .un
  | .mb _ _ => .un
def frzL : List D → List D
  | [] => []
  | d :: l => frz d :: frzL l
def frzLL : List (List D) → List (List D)
  | [] => []
  | r :: l => frzL r :: frzLL l
end
theorem frzL_map (l : List D) : frzL l = l.map frz := by
  induction l with
  | nil => rfl
  | cons d l ih => simp only [frzL, List.map_cons, ih]
theorem frzLL_map (l : List (List D)) : frzLL l = l.map frzL := by
  induction l with
  | nil => rfl
  | cons d l ih => simp only [frzLL, List.map_cons, ih]
theorem frzL_len (l : List D) : (frzL l).length = l.length := by rw [frzL_map, List.length_map]
theorem frzLL_len (l : List (List D)) : (frzLL l).length = l.length := by rw [frzLL_map, List.length_map]
inductive Und (up : Nat → Option Pos) (R : Nat → Prop) : Nat → Prop where
  | root {b id : Nat} : up b = some (.root id) → R id → Und up R b
  | cell {b b' o : Nat} : up b = some (.cell b' o) → Und up R b' → Und up R b
def PU (up : Nat → Option Pos) (R : Nat → Prop) : Pos → Prop
  | .root id => R id
  | .cell b _ => Und up R b
  | .ans _ _ => False
  | .par _ _ => False
theorem und_iff {up : Nat → Option Pos} {R : Nat → Prop} {b : Nat} {p : Pos} (h : up b = some p) : Und up R b ↔ PU up R p := by
  constructor
  · intro q
    cases q with
    | root h' r => rw [h] at h'; injection h' with h'; subst h'; exact r
    | cell h' r => rw [h] at h'; injection h' with h'; subst h'; exact r
  · intro q
    cases p with
    | root id => exact .root h q
    | cell b' o => exact .cell h q
    | ans _ _ => exact q.elim
    | par _ _ => exact q.elim
theorem Rep.froz {S S' : Nat → Prop} {up up' : Nat → Option Pos} {w : World} {R : Nat → Prop} (hS : ∀ b, S b → S' b) (hU : ∀ b, Und up R b → S' b) {p : Option Pos} {d : D} {v : Value} (h : Rep S up w p d v) (hp : ∀ q, p = some q → PU up R q) : Rep S' up' w none (frz d) v := by
  have keep : ∀ {p : Option Pos} {d : D} {v : Value}, Rep S up w p d v → p = none → Rep S' up' w none d v := by
    intro p d v h hp
    have m : Mv (fun _ => False) (fun p => p) ⟨fun _ => none, fun _ => 0, up, S⟩ ⟨fun _ => none, fun _ => 0, up', S'⟩ w w := ⟨fun b hb => ⟨hS b hb, rfl⟩, fun b p _ q => q.elim, fun b p o _ q => q.elim⟩
    have := Rep.move (g := ⟨fun _ => none, fun _ => 0, up, S⟩) m h (fun q hq => by rw [hp] at hq; cases hq)
    rw [hp] at this; exact this
  induction h with
  | s h => exact .s h
  | nil => exact .nil
  | np => exact .np
  | sl0 h => exact .sl0 h
  | sl us h1 h2 h3 h4 h5 _ => exact .sl us h1 h2 h3 (fun i j row d r1 r2 => ⟨hS _ (h4 i j row d r1 r2).1, (h4 i j row d r1 r2).2⟩) (fun i j row d r1 r2 => keep (h5 i j row d r1 r2) rfl)
  | pt us h1 h2 _ => exact .pt us (fun j d r => ⟨hS _ (h1 j d r).1, (h1 j d r).2⟩) (fun j d r => keep (h2 j d r) rfl)
  | fn us h _ => exact .fn us (fun j d r => keep (h j d r) rfl)
  | osl0 => exact .sl0 (by decide)
  | @osl p e k rows b c cs h1 h2 h3 h4 h5 h6 _ ih =>
    have hb : Und up R b := (und_iff h1).2 (hp p rfl)
    have hrow : ∀ (i : Nat) (row : List D), (frzLL rows)[i]? = some row → ∃ row0, rows[i]? = some row0 ∧ row = frzL row0 := by
      intro i row hi
      rw [frzLL_map, List.getElem?_map] at hi
      obtain ⟨r0, q1, q2⟩ := Option.map_eq_some_iff.1 hi
      exact ⟨r0, q1, q2.symm⟩
    have hcell : ∀ (i j : Nat) (row : List D) (d : D), (frzLL rows)[i]? = some row → row[j]? = some d → ∃ row0 d0, rows[i]? = some row0 ∧ row0[j]? = some d0 ∧ d = frz d0 := by
      intro i j row d hi hj
      obtain ⟨r0, q1, rfl⟩ := hrow i row hi
      rw [frzL_map, List.getElem?_map] at hj
      obtain ⟨d0, q2, q3⟩ := Option.map_eq_some_iff.1 hj
      exact ⟨r0, d0, q1, q2, q3.symm⟩
    simp only [frz]
    have key := Rep.sl (S := S') (up := up') (w := w) (p := none) (k := k) (rows := frzLL rows) (b := b) (off := 0) (c := c) (fun i j => cs.getD (i * k + j) undef) (by rw [frzLL_len]; exact h3) h4 (fun i row hi => by
      obtain ⟨r0, q1, rfl⟩ := hrow i row hi
      rw [frzL_len]; exact h6 i r0 q1) (fun i j row d hi hj => ⟨hU b hb, by
      obtain ⟨r0, d0, q1, q2, -⟩ := hcell i j row d hi hj
      have hjk : j < k := by rw [← h6 i r0 q1]; exact (List.getElem?_eq_some_iff.1 q2).1
      have hik := (List.getElem?_eq_some_iff.1 q1).1
      have hlt : i * k + j < cs.size := by
        have h1 : (i + 1) * k ≤ c * k := Nat.mul_le_mul_right _ (by omega)
        rw [Nat.add_mul, Nat.one_mul] at h1; omega
      simp only [World.cell?, h2, Nat.zero_add]
      rw [if_neg (by simp)]
      exact agetD_of hlt⟩) (fun i j row d hi hj => by
      obtain ⟨r0, d0, q1, q2, rfl⟩ := hcell i j row d hi hj
      exact ih i j r0 d0 q1 q2 (fun q hq => by injection hq with hq; subst hq; exact hb))
    rw [frzLL_len] at key; exact key
  | @opt p row b ty cs h1 h2 h3 _ ih =>
    have hb : Und up R b := (und_iff h1).2 (hp p rfl)
    have hcell : ∀ (j : Nat) (d : D), (frzL row)[j]? = some d → ∃ d0, row[j]? = some d0 ∧ d = frz d0 := by
      intro j d hj
      rw [frzL_map, List.getElem?_map] at hj
      obtain ⟨d0, q2, q3⟩ := Option.map_eq_some_iff.1 hj
      exact ⟨d0, q2, q3.symm⟩
    simp only [frz]
    refine Rep.pt (fun j => cs.getD j undef) (fun j d hj => ⟨hU b hb, ?_⟩) (fun j d hj => ?_)
    · obtain ⟨d0, q1, -⟩ := hcell j d hj
      have hlt : j < cs.size := by rw [h3]; exact (List.getElem?_eq_some_iff.1 q1).1
      simp only [World.cell?, h2, Nat.zero_add]
      rw [if_neg (by simp)]
      exact agetD_of hlt
    · obtain ⟨d0, q1, rfl⟩ := hcell j d hj
      exact ih j d0 q1 (fun q hq => by injection hq with hq; subst hq; exact hb)
def frC (id : Nat) (o : Ob) : D → D
  | .bs i k n => if i = id then (match o with
    | .arr _ k' rows => if k' = k ∧ n ≤ rows.length then .sl k (frzLL (rows.take n)) else .un
    | _ => .un) else .bs i k n
  | .bx i off => if i = id then (match o with
    | .box row => .pt (frzL (row.drop off))
    | _ => .un) else .bx i off
  | .el i k j off => if i = id then (match o with
    | .arr _ k' rows => if k' = k ∧ j < rows.length then .pt (frzL ((rows.getD j []).drop off)) else .un
    | _ => .un) else .el i k j off
  | d => d
def frE (id : Nat) (o : Ob) : D → D
  | .ag xs => .ag (xs.map (frC id o))
  | d => frC id o d
def frT (id : Nat) (o : Ob) : D → D
  | .tup xs => .tup (xs.map (frE id o))
  | .mb c x => .mb c (frE id o x)
  | d => frE id o d
def frO (id : Nat) (o : Ob) : Ob → Ob
  | .box row => .box (row.map (frC id o))
  | .arr e k rows => .arr e k rows
  | .hol e k rows i c r => .hol e k rows i c (frC id o r)
def St.fr (σ : St) (id : Nat) (o : Ob) : St := ⟨fun i => frT id o (σ.t i), fun i => if i = id then none else (σ.b i).map (frO id o)⟩
def deepO : Ob → Bool
  | .box row => row.all deepB
  | .arr _ _ _ => true
  | .hol _ _ _ _ _ _ => false
theorem frzL_drop (l : List D) (n : Nat) : frzL (l.drop n) = (frzL l).drop n := by rw [frzL_map, frzL_map, List.map_drop]
theorem frzLL_take (l : List (List D)) (n : Nat) : frzLL (l.take n) = (frzLL l).take n := by rw [frzLL_map, frzLL_map, List.map_take]
theorem Rel.freeze {x : Cx} {g : Gh} {σ : St} {a : Act} {w : World} (h : Rel x g σ a w) (id : Nat) (o : Ob) (ho : σ.b id = some o) (hd : deepO o = true) : ∃ g', Rel x g' (σ.fr id o) a w := by
  classical
  let R : Nat → Prop := fun i => i = id
  let g' : Gh := ⟨g.β, g.κ, fun b => if Und g.up R b then none else g.up b, fun b => g.S b ∨ Und g.up R b⟩
  have hlt : ∀ b, Und g.up R b → b < w.heap.size ∧ (b < x.w0.heap.size → x.G b) := fun b q => by
    cases q with
    | root h' _ => exact ⟨(h.own b _ h').1, (h.own b _ h').2.1⟩
    | cell h' _ => exact ⟨(h.own b _ h').1, (h.own b _ h').2.1⟩
  have ev : Ev (fun p => ¬ PU g.up R p) (fun p => p) pAll (fun i => decide (i ≠ id)) g g' w w := by
    refine ⟨⟨fun b hb => ⟨.inl hb, rfl⟩, fun b p hp ho => ⟨?_, rfl⟩, fun b p o hp ho => ⟨fun q => ho ((und_iff hp).1 q), rfl⟩⟩, fun i _ => ⟨rfl, rfl⟩, fun i hi => ⟨rfl, fun q => ?_, rfl⟩⟩
    · show (if Und g.up R b then none else g.up b) = _
      rw [if_neg (fun q => ho ((und_iff hp).1 q))]; exact hp
    · simp only [decide_eq_true_eq] at hi
      exact hi q
  have hR := h.ev ev (Below.refl _ _) (fun b _ _ => rfl) (fun b hb hs => hs.elim .inl (fun q => .inr ((hlt b q).2 hb))) (fun b hs => hs.elim (h.new b) (fun q => (hlt b q).1)) (fun b p hp => by
    simp only [g'] at hp
    split at hp
    · cases hp
    · rename_i q
      obtain ⟨o1, o2, o3⟩ := h.own b p hp
      exact ⟨o1, o2, fun r => r.elim o3 q⟩)
  have hC : ∀ {p : Option Pos} (y : D) (v : Value), RC g w p y v → RC g' w p (scC pAll y) v → RC g' w p (frC id o y) v := by
    intro p y v h1 h2
    rw [scC_all] at h2
    have hob := h.ob id o ho
    cases y with
    | bs i k n =>
      simp only [frC]
      split
      · rename_i e
        subst e
        obtain ⟨rfl, h3, h4, h5⟩ := h1
        split
        · rename_i e' k' rows
          split
          · rename_i hc
            obtain ⟨rfl, hn⟩ := hc
            have := (Rep.osl_take hob n hn).froz (S' := g'.S) (up' := g'.up) (R := R) (fun b => .inl) (fun b => .inr) (fun q hq => by injection hq with hq; subst hq; exact rfl)
            exact (this.any p).rc
          · rfl
        · rfl
      · exact h2
    | bx i off =>
      simp only [frC]
      split
      · rename_i e
        subst e
        obtain ⟨b, h3, rfl⟩ := h1
        split
        · rename_i row
          obtain ⟨b', cs, ty, b1, b2, b3, b4, b5⟩ := hob
          rw [b1] at h3; injection h3 with h3; subst h3
          have hrep : Rep g.S g.up w (some (.root i)) (.opt row) (.pointer (some ⟨b', 0, none⟩)) := .opt cs b2 b3 b4 fun j d hj => (b5 j d hj).deep (List.all_eq_true.1 hd d (List.mem_of_getElem? hj))
          have := hrep.froz (S' := g'.S) (up' := g'.up) (R := R) (fun b => .inl) (fun b => .inr) (fun q hq => by injection hq with hq; subst hq; exact rfl)
          have := (Rep.pt_drop this off).any p
          rw [Nat.zero_add, ← frzL_drop] at this
          exact this.rc
        · rfl
      · exact h2
    | el i k j off =>
      simp only [frC]
      split
      · rename_i e
        subst e
        obtain ⟨b, h3, rfl⟩ := h1
        split
        · rename_i e' k' rows
          split
          · rename_i hc
            obtain ⟨rfl, hn⟩ := hc
            have hob : Rep g.S g.up w (some (.root i)) (.osl e' k' rows) (.slice ((g.β i).map fun b => ⟨b, 0, none⟩) rows.length (g.κ i)) := hob
            rw [h3, Option.map_some] at hob
            have := hob.froz (S' := g'.S) (up' := g'.up) (R := R) (fun b => .inl) (fun b => .inr) (fun q hq => by injection hq with hq; subst hq; exact rfl)
            obtain ⟨ad, q1, -, q2⟩ := Rep.row (p := none) this j (by rw [frzLL_len]; exact hn)
            injection q1 with q1
            subst q1
            have hg : rows[j]? = some rows[j] := List.getElem?_eq_getElem hn
            have hgd : (frzLL rows).getD j [] = frzL (rows.getD j []) := by
              rw [getD_of hg, List.getD_eq_getElem?_getD, frzLL_map, List.getElem?_map, hg]; rfl
            rw [hgd, add_lit, Nat.zero_add] at q2
            have := (Rep.pt_drop q2 off).any p
            rw [← frzL_drop] at this
            exact this.rc
          · rfl
        · rfl
      · exact h2
    | _ => exact h2
  have hE : ∀ (y : D) (v : Value), RE g w y v → RE g' w (frE id o y) v := by
    intro y v hy
    have h2 := hy.ev ev
    cases y with
    | ag xs =>
      obtain ⟨us, rfl, u1, u2⟩ := hy
      refine ⟨us, rfl, by simp [u1], fun j z u hz hu => ?_⟩
      rw [List.getElem?_map] at hz
      obtain ⟨y0, q1, rfl⟩ := Option.map_eq_some_iff.1 hz
      have h3 := u2 j y0 u q1 hu
      exact hC y0 u h3 (h3.ev ev (p := none) (fun z hz => by cases hz))
    | un => trivial
    | _ =>
      simp only [RE] at hy
      exact (hC _ v hy (hy.ev ev (p := none) (fun z hz => by cases hz))).re
  refine ⟨g', hR.bel, hR.fr, hR.dfr, hR.sz, fun i => ?_, hR.s0, hR.old, hR.new, hR.own, fun i o' hi => ?_, fun i o' hi hq => ?_⟩
  · have hi := h.tm i
    show RT g' w (frT id o (σ.t i)) _
    generalize σ.t i = y at hi
    cases y with
    | tup xs =>
      obtain ⟨us, hv, u1, u2⟩ := hi
      refine ⟨us, hv, by simp [u1], fun j z u hz hu => ?_⟩
      rw [List.getElem?_map] at hz
      obtain ⟨y0, q1, rfl⟩ := Option.map_eq_some_iff.1 hz
      exact hE y0 u (u2 j y0 u q1 hu)
    | mb c y => exact ⟨fun hc => hE y _ (hi.1 hc), hi.2⟩
    | _ => simp only [RT] at hi; exact (hE _ _ hi).rt
  · simp only [St.fr] at hi
    split at hi
    · cases hi
    · rename_i hne
      obtain ⟨o0, q1, rfl⟩ := Option.map_eq_some_iff.1 hi
      have h1 := h.ob i o0 q1
      have h2 := h1.ev ev (id := i) (by simpa using hne)
      cases o0 with
      | arr e k rows => exact h2
      | hol e k rows i0 c0 r =>
        obtain ⟨b, cs, b1, b2, b3, b4, b5, b6, b7, b8, b9, b10, b11⟩ := h1
        obtain ⟨b', cs', c1, c2, c3, c4, c5, c6, c7, c8, c9, c10, c11⟩ := h2
        have : g'.β = g.β := rfl
        rw [this, b1] at c1; injection c1 with c1; subst c1
        rw [b3] at c3; injection c3 with c3; injection c3 with c3 c12; subst c3
        exact ⟨b, cs, b1, c2, b3, b4, b5, b6, b7, b8, b9, hC r _ b10 c10, c11⟩
      | box row =>
        obtain ⟨b, cs, ty, b1, b2, b3, b4, b5⟩ := h1
        obtain ⟨b', cs', ty', c1, c2, c3, c4, c5⟩ := h2
        have : g'.β = g.β := rfl
        rw [this, b1] at c1; injection c1 with c1; subst c1
        rw [b3] at c3; injection c3 with c3; injection c3 with c3 c6; subst c3
        refine ⟨b, cs, ty, b1, c2, b3, by simp [b4], fun j d hj => ?_⟩
        rw [List.getElem?_map] at hj
        obtain ⟨d0, q2, rfl⟩ := Option.map_eq_some_iff.1 hj
        have := c5 j (scC pAll d0) (by rw [List.getElem?_map, q2]; rfl)
        exact hC d0 _ (b5 j d0 q2) this
  · simp only [St.fr] at hi
    split at hi
    · cases hi
    · obtain ⟨o0, q1, -⟩ := Option.map_eq_some_iff.1 hi
      exact h.par i o0 q1 hq
end Go.Proofs.YtgcdbmcoendcdaaGreat

namespace Go.Proofs.YtgcdbmcoendcdaaGreat
set_option linter.unusedVariables false
set_option linter.unusedSimpArgs false
open Go.RowKit
theorem fdL_at {σ : St} : ∀ (l : List D) (ob : Prop) (ds : List D), fdL σ l = some (ob, ds) → ob → ds.length = l.length ∧ ∀ (j : Nat) (c d : D), l[j]? = some c → ds[j]? = some d → ∃ o1, fdC σ c = some (o1, d) ∧ o1
  | [], ob, ds, h, ho => by injection h with h; injection h with e1 e2; subst e2; exact ⟨rfl, fun j c d q => by simp at q⟩
  | c :: l, ob, ds, h, ho => by
    unfold fdL at h
    split at h
    · rename_i o1 d o2 ds' h1 h2
      injection h with h; injection h with e1 e2
      subst e1 e2
      obtain ⟨i1, i2⟩ := fdL_at l o2 ds' h2 ho.2
      refine ⟨by simp [i1], fun j c' d' q1 q2 => ?_⟩
      cases j with
      | zero => simp at q1 q2; subst q1 q2; exact ⟨o1, h1, ho.1⟩
      | succ j => exact i2 j c' d' (by simpa using q1) (by simpa using q2)
    · cases h
def foldB (σ : St) (id : Nat) : Option (Prop × List D × St) := match σ.b id with
  | some (.box row) => match fdL σ row with
    | some (ob, ds) => some (ob ∧ nodB (idsC row) = true ∧ pOut (idsC row) id = true, ds, (σ.sc (pOut (idsC row)) (pOut (idsC row))).setB id (.box ds))
    | none => none
  | _ => none
theorem fdC_deep {σ : St} {c d : D} {ob : Prop} (h : fdC σ c = some (ob, d)) : deepB d = true := by
  cases c with
  | bs id k n => simp only [fdC] at h; split at h; (injection h with h; injection h with _ h; subst h; rfl); cases h
  | bx id off => simp only [fdC] at h; split at h; (injection h with h; injection h with _ h; subst h; rfl); cases h
  | el _ _ _ _ => cases h
  | ag _ => cases h
  | un => cases h
  | tup _ => cases h
  | mb _ _ => cases h
  | _ => (simp only [fdC] at h; injection h with h; injection h with _ h; subst h; rfl)
theorem fdL_deep {σ : St} {l ds : List D} {ob : Prop} (h : fdL σ l = some (ob, ds)) : ds.all deepB = true := by
  induction l generalizing ob ds with
  | nil => injection h with h; injection h with _ h; subst h; rfl
  | cons c l ih =>
    unfold fdL at h
    split at h
    · rename_i o1 d o2 ds' h1 h2
      injection h with h; injection h with _ h
      subst h
      simp only [List.all_cons, Bool.and_eq_true]
      exact ⟨fdC_deep h1, ih h2⟩
    · cases h
theorem Rel.foldB {x : Cx} {g : Gh} {σ σ' : St} {a : Act} {w : World} (h : Rel x g σ a w) {id : Nat} {ob : Prop} {ds : List D} (hf : foldB σ id = some (ob, ds, σ')) (ho : ob) : ∃ g', Rel x g' σ' a w := by
  unfold Go.Proofs.YtgcdbmcoendcdaaGreat.foldB at hf
  split at hf
  · rename_i row hb
    split at hf
    · rename_i ob' ds' hfd
      injection hf with hf; injection hf with e1 e2; injection e2 with e2 e3
      subst e1 e2 e3
      obtain ⟨o1, o2, o3⟩ := ho
      obtain ⟨b, cs, ty, b1, b2, b3, b4, b5⟩ := h.ob id _ hb
      obtain ⟨l1, l2⟩ := fdL_at _ _ _ hfd o1
      have hne : id ∉ idsC row := fun q => pOut_spec o3 id q rfl
      let π : Pos → Pos := fun p => match p with
        | .root m => if m ∈ idsC row then .cell b (tgtC row m) else .root m
        | p => p
      have ev : Ev (fun _ => True) π (pOut (idsC row)) (pOut (idsC row)) g ⟨g.β, g.κ, fun c => (g.up c).map π, g.S⟩ w w := by
        refine ⟨⟨fun c hc => ⟨hc, rfl⟩, fun c p hc _ => ⟨by show (g.up c).map π = _; rw [hc]; rfl, rfl⟩, fun c p o _ _ => ⟨trivial, rfl⟩⟩, fun m _ => ⟨rfl, rfl⟩, fun m hm => ⟨hm, trivial, ?_⟩⟩
        show (if m ∈ idsC row then _ else _) = _
        rw [if_neg (fun q => pOut_spec hm m q rfl)]
      have hR := h.ev ev (Below.refl _ _) (fun b _ _ => rfl) (fun b _ hs => .inl hs) h.new (fun c p hc => by
        simp only at hc
        obtain ⟨p', hp', -⟩ := Option.map_eq_some_iff.1 hc
        exact h.own c p' hp')
      refine ⟨_, hR.setB (id := id) ⟨b, cs, ty, b1, ?_, b3, by rw [l1]; exact b4, fun j d hj => ?_⟩ (h.par id _ hb)⟩
      · show (g.up b).map π = _
        rw [b2]
        show some (if id ∈ idsC row then _ else _) = _
        rw [if_neg hne]
      · have hlt : j < row.length := by rw [← l1]; exact (List.getElem?_eq_some_iff.1 hj).1
        have hc : row[j]? = some row[j] := List.getElem?_eq_getElem hlt
        obtain ⟨o4, f1, f2⟩ := l2 j _ d hc hj
        rcases fdC_ok h f1 f2 (b5 j _ hc) with ⟨-, q⟩ | ⟨m, q1, q2⟩
        · have := Rep.move ev.toMv q (fun _ _ => trivial)
          exact this.rc
        · have := Rep.move ev.toMv q2 (fun _ _ => trivial)
          simp only [Option.map_some, π, if_pos (idsC_mem hc q1), tgtC_at o2 hc q1] at this
          exact this.rc
    · cases hf
  · cases hf
def nmU (id j : Nat) : Nat := 1000000 * (j + 1) + id
def unfC (id j : Nat) : D → D
  | .osl _ k rows => .bs (nmU id j) k rows.length
  | .opt _ => .bx (nmU id j) 0
  | d => d
def unfL (id : Nat) : Nat → List D → List D
  | _, [] => []
  | j, d :: l => unfC id j d :: unfL id (j + 1) l
def unfD : D → Option Ob
  | .osl e k rows => some (.arr e k rows)
  | .opt row => some (.box row)
  | _ => none
def unfO (id : Nat) (row : List D) (i : Nat) : Option Ob := if i % 1000000 = id ∧ 1000000 ≤ i then (row[i / 1000000 - 1]?).bind unfD else none
def pUn (id : Nat) (row : List D) (i : Nat) : Bool := (unfO id row i).isNone
def St.unfB (σ : St) (id : Nat) (row : List D) : St :=
  ⟨fun i => scT (pUn id row) (σ.t i), fun i => if i = id then some (.box (unfL id 0 row)) else match unfO id row i with
    | some o => some o
    | none => (σ.b i).map (scO (pUn id row))⟩
theorem unfL_at (id : Nat) : ∀ (l : List D) (q j : Nat), (unfL id q l)[j]? = (l[j]?).map (unfC id (q + j))
  | [], q, j => by simp [unfL]
  | d :: l, q, 0 => by simp [unfL]
  | d :: l, q, j + 1 => by
    rw [unfL, List.getElem?_cons_succ, unfL_at id l (q + 1) j, List.getElem?_cons_succ]
    congr 2; omega
theorem unfL_len (id : Nat) (l : List D) (q : Nat) : (unfL id q l).length = l.length := by
  induction l generalizing q with
  | nil => rfl
  | cons d l ih => simp [unfL, ih]
def blkV : Value → Option Nat
  | .slice (some a) _ _ => some a.block
  | .pointer (some a) => some a.block
  | _ => none
def capV : Value → Nat
  | .slice (some _) _ c => c
  | _ => 0
theorem Rel.unfB {x : Cx} {g : Gh} {σ : St} {a : Act} {w : World} (h : Rel x g σ a w) {id : Nat} {row : List D} (hb : σ.b id = some (.box row)) (hd : row.all deepB = true) (hid : id < 1000000) : ∃ g', Rel x g' (σ.unfB id row) a w := by
  obtain ⟨b, cs, ty, b1, b2, b3, b4, b5⟩ := h.ob id _ hb
  have hcell : ∀ (j : Nat) (d : D), row[j]? = some d → Rep g.S g.up w (some (.cell b j)) d (cs.getD j undef) := fun j d hj => (b5 j d hj).deep (List.all_eq_true.1 hd d (List.mem_of_getElem? hj))
  let own : Nat → Bool := fun j => ((row[j]?).bind unfD).isSome
  have hnm : ∀ j, unfO id row (nmU id j) = (row[j]?).bind unfD := fun j => by
    unfold unfO nmU
    rw [if_pos (by omega)]
    congr 2; omega
  have hnm' : ∀ i o, unfO id row i = some o → ∃ j, i = nmU id j ∧ (row[j]?).bind unfD = some o := fun i o hi => by
    unfold unfO at hi
    split at hi
    · rename_i q
      exact ⟨i / 1000000 - 1, by unfold nmU; omega, hi⟩
    · cases hi
  have hnid : ∀ j, nmU id j ≠ id := fun j => by unfold nmU; omega
  let π : Pos → Pos := fun p => match p with
    | .cell c j => if c = b ∧ own j = true then .root (nmU id j) else .cell c j
    | p => p
  let g' : Gh := ⟨fun i => if pUn id row i = true then g.β i else blkV (cs.getD (i / 1000000 - 1) undef), fun i => if pUn id row i = true then g.κ i else capV (cs.getD (i / 1000000 - 1) undef), fun c => (g.up c).map π, g.S⟩
  have hnj : ∀ j, nmU id j / 1000000 - 1 = j := fun j => by unfold nmU; omega
  have hpn : ∀ j o, (row[j]?).bind unfD = some o → pUn id row (nmU id j) = false := fun j o q => by unfold pUn; rw [hnm, q]; rfl
  have hpid : pUn id row id = true := by
    unfold pUn
    cases hq : unfO id row id with
    | none => rfl
    | some o => obtain ⟨j, e, -⟩ := hnm' _ _ hq; exact absurd e.symm (hnid j)
  have ev : Ev (fun p => p ≠ .root id ∧ ∀ i, p = .root i → pUn id row i = true) π (pUn id row) (fun i => pUn id row i && i != id) g g' w w := by
    refine ⟨⟨fun c hc => ⟨hc, rfl⟩, fun c p hc hp => ⟨by show (g.up c).map π = _; rw [hc]; rfl, rfl⟩, fun c p o hc hp => ⟨⟨by simp, by simp⟩, ?_⟩⟩, fun i hi => ⟨by show (if _ then _ else _) = _; rw [if_pos hi], by show (if _ then _ else _) = _; rw [if_pos hi]⟩, fun i hi => ?_⟩
    · show (if c = b ∧ own o = true then _ else _) = _
      rw [if_neg]
      rintro ⟨rfl, -⟩
      rw [b2] at hc; injection hc with hc
      exact hp.1 hc.symm
    · simp only [Bool.and_eq_true, bne_iff_ne, ne_eq] at hi
      exact ⟨hi.1, ⟨fun e => by injection e with e; exact hi.2 e, fun i' e => by injection e with e; subst e; exact hi.1⟩, rfl⟩
  have hR := h.ev ev (Below.refl _ _) (fun b _ _ => rfl) (fun b _ hs => .inl hs) h.new (fun c p hc => by
    simp only [g'] at hc
    obtain ⟨p', hp', -⟩ := Option.map_eq_some_iff.1 hc
    exact h.own c p' hp')
  have hmv : ∀ (j : Nat) (d : D), row[j]? = some d → Rep g'.S g'.up w (some (if own j = true then .root (nmU id j) else .cell b j)) d (cs.getD j undef) := fun j d hj => by
    have := Rep.move ev.toMv (hcell j d hj) (fun q hq => by injection hq with hq; subst hq; exact ⟨by simp, by simp⟩)
    rw [Option.map_some] at this
    by_cases ho : own j = true
    · rw [if_pos ho]
      have e : π (.cell b j) = .root (nmU id j) := by show (if b = b ∧ own j = true then _ else _) = _; rw [if_pos ⟨rfl, ho⟩]
      rw [e] at this; exact this
    · rw [if_neg ho]
      have e : π (.cell b j) = .cell b j := by show (if b = b ∧ own j = true then _ else _) = _; rw [if_neg (fun q => ho q.2)]
      rw [e] at this; exact this
  refine ⟨g', hR.bel, hR.fr, hR.dfr, hR.sz, hR.tm, hR.s0, hR.old, hR.new, hR.own, fun i o hi => ?_, fun i o hi hq => ?_⟩
  rotate_left
  · have hp : pUn id row i = true := by
      unfold pUn
      cases hu : unfO id row i with
      | none => rfl
      | some o' =>
        obtain ⟨j, rfl, -⟩ := hnm' _ _ hu
        exfalso
        unfold isP nmU at hq
        rw [Bool.and_eq_true, decide_eq_true_eq, decide_eq_true_eq] at hq
        have := hq.2
        omega
    have hb' : ∃ o', σ.b i = some o' := by
      simp only [St.unfB] at hi
      split at hi
      · rename_i e; subst e; exact ⟨_, hb⟩
      · split at hi
        · rename_i hu; unfold pUn at hp; rw [hu] at hp; cases hp
        · obtain ⟨o0, q1, -⟩ := Option.map_eq_some_iff.1 hi; exact ⟨o0, q1⟩
    obtain ⟨o', hb'⟩ := hb'
    have := h.par i o' hb' hq
    constructor
    · show (if _ then _ else _) = _
      rw [if_pos hp]; exact this.1
    · show (if _ then _ else _) = _
      rw [if_pos hp]; exact this.2
  simp only [St.unfB] at hi
  split at hi
  · rename_i e
    subst e
    injection hi with hi
    subst hi
    refine ⟨b, cs, ty, ?_, ?_, b3, by rw [unfL_len]; exact b4, fun j d hj => ?_⟩
    · show (if _ then _ else _) = _
      rw [if_pos hpid]; exact b1
    · show (g.up b).map π = _
      rw [b2]; rfl
    · rw [unfL_at, Nat.zero_add] at hj
      obtain ⟨d0, q1, rfl⟩ := Option.map_eq_some_iff.1 hj
      have hm := hmv j d0 q1
      by_cases ho : own j = true
      · rw [if_pos ho] at hm
        have hβ : g'.β (nmU i j) = blkV (cs.getD j undef) ∧ g'.κ (nmU i j) = capV (cs.getD j undef) := by
          obtain ⟨o', ho'⟩ := Option.isSome_iff_exists.1 ho
          have hp := hpn j o' ho'
          constructor
          · show (if _ then _ else _) = _
            rw [if_neg (by rw [hp]; simp), hnj]
          · show (if _ then _ else _) = _
            rw [if_neg (by rw [hp]; simp), hnj]
        generalize cs.getD j undef = v at hm hβ
        cases d0 with
        | osl e k rows =>
          show v = .slice ((g'.β (nmU i j)).map _) _ _ ∧ _
          rw [hβ.1, hβ.2]
          cases hm with
          | osl0 => exact ⟨rfl, Nat.zero_le _, by simp [capV, maxLen], fun _ => rfl⟩
          | osl cs' r1 r2 r3 r4 r5 r6 r7 => exact ⟨rfl, r3, r4, fun q => by cases q⟩
        | opt r =>
          cases hm with
          | opt cs' r1 r2 r3 r4 => exact ⟨_, hβ.1, rfl⟩
        | _ => (simp only [own, q1, Option.bind_some, unfD] at ho; cases ho)
      · rw [if_neg ho] at hm
        have hc : unfC i j d0 = d0 := by
          cases d0 with
          | osl e k rows => exact absurd (by simp only [own, q1, Option.bind_some, unfD]; rfl) ho
          | opt r => exact absurd (by simp only [own, q1, Option.bind_some, unfD]; rfl) ho
          | _ => rfl
        rw [hc]; exact hm.rc
  · rename_i hne
    split at hi
    · rename_i o' ho'
      injection hi with hi
      subst hi
      obtain ⟨j, rfl, hj⟩ := hnm' _ _ ho'
      obtain ⟨d0, q1, q2⟩ := Option.bind_eq_some_iff.1 hj
      have hm := hmv j d0 q1
      rw [if_pos (by simp only [own, hj]; rfl)] at hm
      have hp := hpn j _ hj
      have hβ : g'.β (nmU id j) = blkV (cs.getD j undef) ∧ g'.κ (nmU id j) = capV (cs.getD j undef) := by
        constructor
        · show (if _ then _ else _) = _
          rw [if_neg (by rw [hp]; simp), hnj]
        · show (if _ then _ else _) = _
          rw [if_neg (by rw [hp]; simp), hnj]
      generalize cs.getD j undef = v at hm hβ
      cases d0 with
      | osl e k rows =>
        injection q2 with q2
        subst q2
        show Rep _ _ _ _ _ _
        rw [hβ.1, hβ.2]
        cases hm with
        | osl0 => exact .osl0
        | osl cs' r1 r2 r3 r4 r5 r6 r7 => exact .osl cs' r1 r2 r3 r4 r5 r6 r7
      | opt r =>
        injection q2 with q2
        subst q2
        cases hm with
        | opt cs' r1 r2 r3 r4 => exact ⟨_, cs', _, hβ.1, r1, r2, r3, fun j' d' hj' => (r4 j' d' hj').rc⟩
      | _ => cases q2
    · rename_i ho'
      obtain ⟨o0, q1, rfl⟩ := Option.map_eq_some_iff.1 hi
      exact hR.ob i _ (by
        simp only [St.sc]
        rw [if_pos (by simp [pUn, ho', hne]), q1]; rfl)
def refC (nm : Nat) : D → D
  | .osl _ k rows => .bs nm k rows.length
  | .opt _ => .bx nm 0
  | c => c
theorem Rep.ref {g : Gh} {w : World} {nm : Nat} {c : D} {u : Value} (h : Rep g.S g.up w (some (.root nm)) c u) (hβ : g.β nm = blkV u) (hκ : g.κ nm = capV u) : RC g w none (refC nm c) u := by
  cases c with
  | osl e k rows =>
    show u = .slice ((g.β nm).map _) _ _ ∧ _
    rw [hβ, hκ]
    cases h with
    | osl0 => exact ⟨rfl, Nat.zero_le _, by simp [capV, maxLen], fun _ => rfl⟩
    | osl cs' r1 r2 r3 r4 r5 r6 r7 => exact ⟨rfl, r3, r4, fun q => by cases q⟩
  | opt r =>
    cases h with
    | opt cs' r1 r2 r3 r4 => exact ⟨_, hβ, rfl⟩
  | _ => exact (h.free (fun _ _ _ q => by cases q) (fun _ q => by cases q) none).rc
theorem Rep.ro {g : Gh} {w : World} {i : Nat} {c : D} {o : Ob} {u : Value} (h : Rep g.S g.up w (some (.root i)) c u) (hc : unfD c = some o) (hβ : g.β i = blkV u) (hκ : ∀ e k rows, c = .osl e k rows → g.κ i = capV u) : RO g w i o := by
  cases c with
  | osl e k rows =>
    injection hc with hc
    subst hc
    show Rep _ _ _ _ _ _
    rw [hβ, hκ e k rows rfl]
    cases h with
    | osl0 => exact .osl0
    | osl cs r1 r2 r3 r4 r5 r6 r7 => exact .osl cs r1 r2 r3 r4 r5 r6 r7
  | opt r =>
    injection hc with hc
    subst hc
    cases h with
    | opt cs' r1 r2 r3 r4 => exact ⟨_, cs', _, hβ, r1, r2, r3, fun j' d' hj' => (r4 j' d' hj').rc⟩
  | _ => cases hc
theorem ij_ne {k i j i0 c0 : Nat} (hj : j < k) (hc : c0 < k) (h : ¬ (i = i0 ∧ j = c0)) : i * k + j ≠ i0 * k + c0 := by
  intro e
  rcases Nat.lt_trichotomy i i0 with q | q | q
  · have : (i + 1) * k ≤ i0 * k := Nat.mul_le_mul_right _ q
    rw [Nat.add_mul, Nat.one_mul] at this; omega
  · subst q; exact h ⟨rfl, by omega⟩
  · have : (i0 + 1) * k ≤ i * k := Nat.mul_le_mul_right _ q
    rw [Nat.add_mul, Nat.one_mul] at this; omega
def St.opE (σ : St) (id e k : Nat) (rows : List (List D)) (i c nm : Nat) (d : D) (o : Ob) : St := ((σ.sc (pOut [nm]) (pOut [nm, id])).setB id (.hol e k rows i c (refC nm d))).setB nm o
theorem Rel.openE {x : Cx} {g : Gh} {σ : St} {a : Act} {w : World} (h : Rel x g σ a w) {id e k : Nat} {rows : List (List D)} (hb : σ.b id = some (.arr e k rows)) (i c nm : Nat) {row : List D} {d : D} {o : Ob} (hi : rows[i]? = some row) (hd : row[c]? = some d) (hu : unfD d = some o) (hne : nm ≠ id) (hnP : isP nm = false) : ∃ g', Rel x g' (σ.opE id e k rows i c nm d o) a w := by
  have hR0 : Rep g.S g.up w (some (.root id)) (.osl e k rows) (.slice ((g.β id).map fun b => ⟨b, 0, none⟩) rows.length (g.κ id)) := h.ob id _ hb
  generalize hvv : Value.slice ((g.β id).map fun b => (⟨b, 0, none⟩ : Addr)) rows.length (g.κ id) = vv at hR0
  cases hR0 with
  | osl0 => simp at hi
  | @osl _ _ _ _ b co cs q1 q2 q3 q4 q5 q6 q7 =>
    injection hvv with hv1 _ hv2
    have hβ : g.β id = some b := by
      cases hq : g.β id with
      | none => rw [hq] at hv1; cases hv1
      | some b' => rw [hq] at hv1; injection hv1 with hv1; injection hv1 with hv1; rw [hv1]
    subst hv2
    have hck : c < k := by rw [← q6 i row hi]; exact (List.getElem?_eq_some_iff.1 hd).1
    let π : Pos → Pos := fun p => match p with
      | .cell b' o => if b' = b ∧ o = i * k + c then .root nm else .cell b' o
      | p => p
    let g' : Gh := ⟨fun j => if j = nm then blkV (cs.getD (i * k + c) undef) else g.β j, fun j => if j = nm then capV (cs.getD (i * k + c) undef) else g.κ j, fun b' => (g.up b').map π, g.S⟩
    have ev : Ev (fun p => p ≠ .root id ∧ p ≠ .root nm) π (pOut [nm]) (pOut [nm, id]) g g' w w := by
      refine ⟨⟨fun b' hb' => ⟨hb', rfl⟩, fun b' p hp _ => ⟨by show (g.up b').map π = _; rw [hp]; rfl, rfl⟩, fun b' p o hp ho => ⟨by simp, ?_⟩⟩, fun j hj => ?_, fun j hj => ?_⟩
      · show (if b' = b ∧ o = i * k + c then _ else _) = _
        rw [if_neg]
        rintro ⟨rfl, -⟩
        rw [q1] at hp; injection hp with hp
        exact ho.1 hp.symm
      · have := pOut_spec hj nm (by simp)
        exact ⟨by show (if _ then _ else _) = _; rw [if_neg this], by show (if _ then _ else _) = _; rw [if_neg this]⟩
      · have h1 := pOut_spec hj nm (by simp)
        have h2 := pOut_spec hj id (by simp)
        exact ⟨by simp [pOut, h1], ⟨fun q => by injection q with q; exact h2 q, fun q => by injection q with q; exact h1 q⟩, rfl⟩
    have hR := h.ev ev (Below.refl _ _) (fun b _ _ => rfl) (fun b _ hs => .inl hs) h.new (fun b' p hp => by
      obtain ⟨p', hp', -⟩ := Option.map_eq_some_iff.1 (show (g.up b').map π = some p from hp)
      exact h.own b' p' hp')
    have hnm : g'.β nm = blkV (cs.getD (i * k + c) undef) ∧ g'.κ nm = capV (cs.getD (i * k + c) undef) := ⟨if_pos rfl, if_pos rfl⟩
    have hid : g'.β id = some b ∧ g'.κ id = g.κ id := ⟨(if_neg (fun q => hne q.symm)).trans hβ, if_neg (fun q => hne q.symm)⟩
    have hmv := Rep.move ev.toMv (q7 i c row d hi hd) (fun z hz => by injection hz with hz; subst hz; simp)
    have e1 : π (.cell b (i * k + c)) = .root nm := if_pos ⟨rfl, rfl⟩
    rw [Option.map_some, e1] at hmv
    refine ⟨g', (hR.setB (id := id) (o := .hol e k rows i c (refC nm d)) ⟨b, cs, hid.1, ?_, q2, by rw [hid.2]; exact q3, by rw [hid.2]; exact q4, by rw [hid.2]; exact q5, q6, (List.getElem?_eq_some_iff.1 hi).1, hck, (hmv.ref hnm.1 hnm.2).any _, fun i' j row' d' r1 r2 r3 => ?_⟩ (fun hp => by rw [hid.1, hid.2]; have := h.par id _ hb hp; rw [hβ] at this; exact this)).setB (id := nm) (hmv.ro hu hnm.1 (fun _ _ _ _ => hnm.2)) (fun hp => by rw [hnP] at hp; cases hp)⟩
    · show (g.up b).map π = _
      rw [q1]; rfl
    · have hjk : j < k := by rw [← q6 i' row' r1]; exact (List.getElem?_eq_some_iff.1 r2).1
      have := Rep.move ev.toMv (q7 i' j row' d' r1 r2) (fun z hz => by injection hz with hz; subst hz; simp)
      have e2 : π (.cell b (i' * k + j)) = .cell b (i' * k + j) := if_neg (fun q => ij_ne hjk hck r3 q.2)
      rwa [Option.map_some, e2] at this
theorem Rel.closeE {x : Cx} {g : Gh} {σ : St} {a : Act} {w : World} (h : Rel x g σ a w) {id e k : Nat} {rows : List (List D)} {i c : Nat} {r d : D} {ob : Prop} {nm : Nat} (hb : σ.b id = some (.hol e k rows i c r)) (hf : fdC σ r = some (ob, d)) (ho : ob) (hr : idC r = some nm) (hne : nm ≠ id) :
    ∃ g', Rel x g' ((σ.sc (pOut [nm]) (pOut [nm])).setB id (.arr e k (rows.set i ((rows.getD i []).set c d)))) a w := by
  obtain ⟨b, cs, h1, h2, h3, h4, h5, h6, h7, h8, h9, h10, h11⟩ := h.ob id _ hb
  let π : Pos → Pos := fun p => match p with
    | .root m => if m = nm then .cell b (i * k + c) else .root m
    | p => p
  have ev : Ev (fun _ => True) π (pOut [nm]) (pOut [nm]) g ⟨g.β, g.κ, fun c => (g.up c).map π, g.S⟩ w w := by
    refine ⟨⟨fun c hc => ⟨hc, rfl⟩, fun c p hc _ => ⟨by show (g.up c).map π = _; rw [hc]; rfl, rfl⟩, fun c p o _ _ => ⟨trivial, rfl⟩⟩, fun m _ => ⟨rfl, rfl⟩, fun m hm => ⟨hm, trivial, ?_⟩⟩
    exact if_neg (pOut_spec hm nm (by simp))
  have hR := h.ev ev (Below.refl _ _) (fun b _ _ => rfl) (fun b _ hs => .inl hs) h.new (fun c p hc => by
    obtain ⟨p', hp', -⟩ := Option.map_eq_some_iff.1 (show (g.up c).map π = some p from hc)
    exact h.own c p' hp')
  have hg : rows[i]? = some rows[i] := List.getElem?_eq_getElem h8
  have hrl := h7 i _ hg
  refine ⟨_, hR.setB (id := id) ?_ (h.par id _ hb)⟩
  show Rep _ _ _ _ _ _
  rw [h1, Option.map_some]
  have key := Rep.osl (S := g.S) (up := fun c => (g.up c).map π) (w := w) (p := .root id) (e := e) (k := k) (rows := rows.set i ((rows.getD i []).set c d)) (b := b) (c := g.κ id) cs (by
    show (g.up b).map π = _
    rw [h2]
    exact congrArg some (if_neg (fun q => hne q.symm))) h3 (by simpa using h4) h5 h6 (fun i' row hi' => ?_) (fun i' j row y hi' hj => ?_)
  · exact key
  · rw [List.getElem?_set] at hi'
    split at hi'
    · rename_i e'; subst e'
      injection hi' with hi'
      subst hi'
      rw [List.length_set, getD_of hg, hrl]
    · exact h7 i' row hi'
  · have keep : ∀ row0, rows[i']? = some row0 → row0[j]? = some y → ¬ (i' = i ∧ j = c) → Rep g.S (fun c => (g.up c).map π) w (some (.cell b (i' * k + j))) y (cs.getD (i' * k + j) undef) := fun row0 r1 r2 r3 => Rep.move ev.toMv (h11 i' j row0 y r1 r2 r3) (fun _ _ => trivial)
    rw [List.getElem?_set] at hi'
    split at hi'
    · rename_i e'; subst e'
      injection hi' with hi'
      subst hi'
      rw [getD_of hg, List.getElem?_set] at hj
      split at hj
      · rename_i e'; subst e'
        have hcl : c < rows[i].length := by rw [hrl]; exact h9
        first
          | rw [if_pos hcl] at hj
          | skip
        injection hj with hj
        subst hj
        rcases fdC_ok h hf ho h10 with ⟨q1, -⟩ | ⟨m, q1, q2⟩
        · rw [hr] at q1; cases q1
        · rw [hr] at q1; injection q1 with q1; subst q1
          have := Rep.move ev.toMv q2 (fun _ _ => trivial)
          have e2 : π (.root nm) = .cell b (i * k + c) := if_pos rfl
          rwa [Option.map_some, e2] at this
      · rename_i hc
        exact keep _ hg hj (fun q => hc q.2.symm)
    · rename_i hne'
      exact keep row hi' hj (fun q => hne' q.1.symm)
theorem Rel.closeD {x : Cx} {g : Gh} {σ : St} {a : Act} {w : World} (h : Rel x g σ a w) {id e k : Nat} {rows : List (List D)} {i c : Nat} {r : D} (hb : σ.b id = some (.hol e k rows i c r)) (hd : deepB r = true) :
    Rel x g (σ.setB id (.arr e k (rows.set i ((rows.getD i []).set c r)))) a w := by
  obtain ⟨b, cs, h1, h2, h3, h4, h5, h6, h7, h8, h9, h10, h11⟩ := h.ob id _ hb
  have hg : rows[i]? = some rows[i] := List.getElem?_eq_getElem h8
  have hrl := h7 i _ hg
  refine h.setB (id := id) ?_ (h.par id _ hb)
  show Rep _ _ _ _ _ _
  rw [h1, Option.map_some]
  have key := Rep.osl (S := g.S) (up := g.up) (w := w) (p := .root id) (e := e) (k := k) (rows := rows.set i ((rows.getD i []).set c r)) (b := b) (c := g.κ id) cs h2 h3 (by simpa using h4) h5 h6 (fun i' row hi' => ?_) (fun i' j row y hi' hj => ?_)
  · exact key
  · rw [List.getElem?_set] at hi'
    split at hi'
    · rename_i e'; subst e'
      injection hi' with hi'
      subst hi'
      rw [List.length_set, getD_of hg, hrl]
    · exact h7 i' row hi'
  · have keep : ∀ row0, rows[i']? = some row0 → row0[j]? = some y → ¬ (i' = i ∧ j = c) → Rep g.S g.up w (some (.cell b (i' * k + j))) y (cs.getD (i' * k + j) undef) := fun row0 r1 r2 r3 => h11 i' j row0 y r1 r2 r3
    rw [List.getElem?_set] at hi'
    split at hi'
    · rename_i e'; subst e'
      injection hi' with hi'
      subst hi'
      rw [getD_of hg, List.getElem?_set] at hj
      split at hj
      · rename_i e'; subst e'
        have hcl : c < rows[i].length := by rw [hrl]; exact h9
        first
          | rw [if_pos hcl] at hj
          | skip
        injection hj with hj
        subst hj
        exact h10.deep hd
      · rename_i hc
        exact keep _ hg hj (fun q => hc q.2.symm)
    · rename_i hne'
      exact keep row hi' hj (fun q => hne' q.1.symm)
end Go.Proofs.YtgcdbmcoendcdaaGreat

namespace Go.Proofs.YtgcdbmcoendcdaaGreat
set_option linter.unusedVariables false
set_option linter.unusedSimpArgs false
open Go.RowKit
def RA (g : Gh) (w : World) (j : Nat) : D → Value → Prop
  | .ag xs, v => ∃ us : List Value, v = .agg us.toArray ∧ us.length = xs.length ∧ ∀ (l : Nat) (x : D) (u : Value), xs[l]? = some x → us[l]? = some u → Rep g.S g.up w (some (.par j l)) x u
  | d, v => Rep g.S g.up w (some (.par j 0)) d v
def RU (g : Gh) (w : World) (j : Nat) : D → Value → Prop
  | .un, _ => True
  | .ag xs, v => ∃ us : List Value, v = .agg us.toArray ∧ us.length = xs.length ∧ ∀ (l : Nat) (x : D) (u : Value), xs[l]? = some x → us[l]? = some u → x = .un ∨ Rep g.S g.up w (some (.par j l)) x u
  | d, v => Rep g.S g.up w (some (.par j 0)) d v
def RN (g : Gh) (w : World) (m : Nat) : D → Value → Prop
  | .un, _ => True
  | .ag xs, v => ∃ us : List Value, v = .agg us.toArray ∧ us.length = xs.length ∧ ∀ (l : Nat) (x : D) (u : Value), xs[l]? = some x → us[l]? = some u → Rep g.S g.up w (some (.ans m l)) x u
  | d, v => Rep g.S g.up w (some (.ans m 0)) d v
def RNs (g : Gh) (w : World) : D → Value → Prop
  | .tup xs, v => ∃ us : List Value, v = .tuple us.toArray ∧ us.length = xs.length ∧ ∀ (m : Nat) (x : D) (u : Value), xs[m]? = some x → us[m]? = some u → RN g w m x u
  | d, v => RN g w 0 d v
structure FCon (P : Program) (f : FuncId) (args : List D) (Rs : D → List D → Prop) : Prop where
  ent : ∀ vs w, (callFunc f vs).run P w = .ok (.enter f vs) w
  run : ∀ (w : World) (g : Gh) (vs : List Value), (∀ b, g.S b → b < w.heap.size) → (∀ b p, g.up b = some p → b < w.heap.size ∧ ¬ g.S b) → vs.length = args.length → (∀ (j : Nat) (d : D) (u : Value), args[j]? = some d → vs[j]? = some u → RA g w j d u) →
    Calls P f vs.toArray w (fun e w' => ∃ v g' r outs, e = .returned v ∧ Below 0 w w' ∧ (∀ b, b < w.heap.size → g.up b = none → w'.heap[b]? = w.heap[b]?) ∧ (∀ b, g.S b → Gh.S g' b) ∧ (∀ b, b < w.heap.size → g'.S b → g.S b ∨ g.up b ≠ none) ∧ (∀ b, g'.S b → b < w'.heap.size) ∧
      (∀ b p, g'.up b = some p → b < w'.heap.size ∧ (b < w.heap.size → g.up b ≠ none) ∧ ¬ g'.S b) ∧ Rs r outs ∧ RNs g' w' r v ∧ ∀ (j : Nat) (d : D) (u : Value), outs[j]? = some d → vs[j]? = some u → RU g' w' j d u)
theorem FCon.mono {P : Program} {f : FuncId} {args : List D} {Rs Rs' : D → List D → Prop} (h : FCon P f args Rs) (hr : ∀ r o, Rs r o → Rs' r o) : FCon P f args Rs' := by
  refine ⟨h.ent, fun w g vs h1 h2 h3 h4 => (h.run w g vs h1 h2 h3 h4).mono ?_⟩
  rintro e w' ⟨v, g', r, o, a1, a2, a3, a4, a5, a6, a7, a8, a9⟩
  exact ⟨v, g', r, o, a1, a2, a3, a4, a5, a6, a7, hr r o a8, a9⟩
inductive Pure : D → Prop where
  | s (v : Value) : Pure (.s v)
  | nil : Pure .nil
  | np : Pure .np
  | un : Pure .un
  | sl0 {k : Nat} : Pure (.sl k [])
  | osl {e k : Nat} {rows : List (List D)} : (∀ (i j : Nat) (row : List D) (d : D), rows[i]? = some row → row[j]? = some d → Pure d) → Pure (.osl e k rows)
  | opt {row : List D} : (∀ (j : Nat) (d : D), row[j]? = some d → Pure d) → Pure (.opt row)
  | ag {xs : List D} : (∀ (j : Nat) (d : D), xs[j]? = some d → Pure d) → Pure (.ag xs)
  | tup {xs : List D} : (∀ (j : Nat) (d : D), xs[j]? = some d → Pure d) → Pure (.tup xs)
theorem Rep.pmove {S S' : Nat → Prop} {up up' : Nat → Option Pos} {w w' : World} {π : Pos → Pos} (ow : ∀ b p, up b = some p → up' b = some (π p) ∧ w'.heap[b]? = w.heap[b]?) (st : ∀ b o, π (.cell b o) = .cell b o) {p : Option Pos} {d : D} {v : Value} (h : Rep S up w p d v) (hs : (∀ b, S b → S' b ∧ w'.heap[b]? = w.heap[b]?) ∨ Pure d) : Rep S' up' w' (p.map π) d v := by
  rcases hs with hs | hp
  · have m : Mv (fun _ => True) π ⟨fun _ => none, fun _ => 0, up, S⟩ ⟨fun _ => none, fun _ => 0, up', S'⟩ w w' := ⟨hs, fun b p hb _ => ow b p hb, fun b p o _ _ => ⟨trivial, st b o⟩⟩
    exact Rep.move (g := ⟨fun _ => none, fun _ => 0, up, S⟩) m h (fun _ _ => trivial)
  · induction h with
    | s h => exact .s h
    | nil => exact .nil
    | np => exact .np
    | sl0 h => exact .sl0 h
    | @sl p k rows b off c us h1 h2 h3 h4 h5 ih =>
      cases hp with
      | sl0 => exact .sl us h1 h2 h3 (fun i j row d r1 r2 => by simp at r1) (fun i j row d r1 r2 => by simp at r1)
    | pt us h1 _ ih => cases hp
    | fn us _ ih => cases hp
    | osl0 => exact .osl0
    | @osl p e k rows b c cs h1 h2 h3 h4 h5 h6 _ ih =>
      cases hp with
      | osl hp =>
        obtain ⟨m1, m2⟩ := ow b p h1
        refine .osl cs m1 (m2.trans h2) h3 h4 h5 h6 fun i j row d r1 r2 => ?_
        have := ih i j row d r1 r2 (hp i j row d r1 r2)
        rwa [Option.map_some, st] at this
    | @opt p row b ty cs h1 h2 h3 _ ih =>
      cases hp with
      | opt hp =>
        obtain ⟨m1, m2⟩ := ow b p h1
        refine .opt cs m1 (m2.trans h2) h3 fun j d r => ?_
        have := ih j d r (hp j d r)
        rwa [Option.map_some, st] at this
theorem Und.disj {up : Nat → Option Pos} {R R' : Nat → Prop} {b : Nat} (h : Und up R b) (h' : Und up R' b) : ∃ i, R i ∧ R' i := by
  induction h with
  | @root b i h1 h2 =>
    cases h' with
    | @root _ i' h3 h4 => rw [h1] at h3; injection h3 with h3; injection h3 with h3; subst h3; exact ⟨i, h2, h4⟩
    | cell h3 _ => rw [h1] at h3; injection h3 with h3; cases h3
  | @cell b b' o h1 h2 ih =>
    cases h' with
    | root h3 _ => rw [h1] at h3; injection h3 with h3; cases h3
    | @cell _ b'' o' h3 h4 => rw [h1] at h3; injection h3 with h3; injection h3 with h3 h5; subst h3; exact ih h4
/-! ### what is given, what is lent -/
abbrev Gv := Nat × Nat × Nat
def gvF : List Gv → Nat → Option (Nat × Nat)
  | [], _ => none
  | (i, j, l) :: r, n => if n = i then some (j, l) else gvF r n
def gvB : List Gv → Nat → Nat → Option Nat
  | [], _, _ => none
  | (i, j, l) :: r, j', l' => if j' = j ∧ l' = l then some i else gvB r j' l'
def gvN (gs : List Gv) : List Nat := gs.map fun p => p.1
def gvK (gs : List Gv) : List Nat := gs.map fun p => 1000 * p.2.1 + p.2.2
theorem gvF_mem {gs : List Gv} {n j l : Nat} (h : gvF gs n = some (j, l)) : (n, j, l) ∈ gs := by
  induction gs with
  | nil => cases h
  | cons p r ih =>
    obtain ⟨i, j', l'⟩ := p
    simp only [gvF] at h
    split at h
    · rename_i e; injection h with h; injection h with h1 h2; subst e h1 h2; simp
    · exact List.mem_cons_of_mem _ (ih h)
theorem gvF_of {gs : List Gv} (hn : nodB (gvN gs) = true) {n j l : Nat} (h : (n, j, l) ∈ gs) : gvF gs n = some (j, l) := by
  induction gs with
  | nil => cases h
  | cons p r ih =>
    obtain ⟨i, j', l'⟩ := p
    simp only [gvN, List.map_cons, nodB, Bool.and_eq_true] at hn
    simp only [gvF]
    rcases List.mem_cons.1 h with e | h
    · injection e with e1 e2; injection e2 with e2 e3; subst e1 e2 e3; rw [if_pos rfl]
    · rw [if_neg (fun e => pOut_spec hn.1 n (List.mem_map.2 ⟨_, h, rfl⟩) e.symm)]
      exact ih hn.2 h
theorem gvB_of {gs : List Gv} (hn : nodB (gvK gs) = true) {n j l : Nat} (h : (n, j, l) ∈ gs) : gvB gs j l = some n := by
  induction gs with
  | nil => cases h
  | cons p r ih =>
    obtain ⟨i, j', l'⟩ := p
    simp only [gvK, List.map_cons, nodB, Bool.and_eq_true] at hn
    simp only [gvB]
    rcases List.mem_cons.1 h with e | h2
    · injection e with e1 e2; injection e2 with e2 e3; subst e1 e2 e3; rw [if_pos ⟨rfl, rfl⟩]
    · rw [if_neg (fun e => by
        obtain ⟨rfl, rfl⟩ := e
        exact pOut_spec hn.1 (1000 * j + l) (List.mem_map.2 ⟨(n, j, l), h2, rfl⟩) rfl)]
      exact ih hn.2 h2
def pinG (gs : List Gv) : Pos → Pos
  | .root i => match gvF gs i with
    | some (j, l) => .par j l
    | none => .root i
  | p => p
def ansN (d m l : Nat) : Nat := 1000 * (20 * m + l + 1) + d
def poutG (gs : List Gv) (d : Nat) : Pos → Pos
  | .par j l => match gvB gs j l with
    | some i => .root i
    | none => .par j l
  | .ans m l => .root (ansN d m l)
  | p => p
noncomputable def calG (g : Gh) (gs : List Gv) (bs : List Nat) : Gh := by
  classical
  exact ⟨fun _ => none, fun _ => 0, fun b => if Und g.up (fun i => i ∈ gvN gs) b then (g.up b).map (pinG gs) else none, fun b => g.S b ∨ Und g.up (fun i => i ∈ bs) b⟩
section
variable {x : Cx} {g : Gh} {σ : St} {a : Act} {w : World}
theorem calG_S {gs : List Gv} {bs : List Nat} (b : Nat) : (calG g gs bs).S b ↔ g.S b ∨ Und g.up (fun i => i ∈ bs) b := Iff.rfl
theorem calG_in {gs : List Gv} {bs : List Nat} {b : Nat} (h : Und g.up (fun i => i ∈ gvN gs) b) : (calG g gs bs).up b = (g.up b).map (pinG gs) := by
  classical
  show (if _ then _ else _) = _
  rw [if_pos h]
theorem calG_out {gs : List Gv} {bs : List Nat} {b : Nat} : (calG g gs bs).up b ≠ none ↔ Und g.up (fun i => i ∈ gvN gs) b := by
  classical
  constructor
  · intro h
    have h : (if Und g.up (fun i => i ∈ gvN gs) b then (g.up b).map (pinG gs) else none) ≠ none := h
    by_cases q : Und g.up (fun i => i ∈ gvN gs) b
    · exact q
    · rw [if_neg q] at h; exact absurd rfl h
  · intro h
    rw [calG_in h]
    cases h with
    | root h' _ => rw [h']; simp
    | cell h' _ => rw [h']; simp
theorem Rel.und (h : Rel x g σ a w) {R : Nat → Prop} {b : Nat} (q : Und g.up R b) : b < w.heap.size ∧ (b < x.w0.heap.size → x.G b) ∧ ¬ g.S b := by
  cases q with
  | root h' _ => exact h.own b _ h'
  | cell h' _ => exact h.own b _ h'
theorem Rel.cal1 (h : Rel x g σ a w) (gs : List Gv) (bs : List Nat) : ∀ b, (calG g gs bs).S b → b < w.heap.size := fun b q => q.elim (h.new b) (fun q => (h.und q).1)
theorem Rel.cal2 (h : Rel x g σ a w) {gs : List Gv} {bs : List Nat} (hd : ∀ b ∈ bs, b ∉ gvN gs) : ∀ b p, (calG g gs bs).up b = some p → b < w.heap.size ∧ ¬ (calG g gs bs).S b := fun b p q => by
  have hu := (calG_out (g := g) (gs := gs) (bs := bs) (b := b)).1 (by rw [q]; simp)
  refine ⟨(h.und hu).1, fun r => r.elim (h.und hu).2.2 fun r => ?_⟩
  obtain ⟨i, i1, i2⟩ := hu.disj r
  exact hd i i2 i1
theorem Rel.calCell (h : Rel x g σ a w) {gs : List Gv} {bs : List Nat} {c d : D} {ob : Prop} {u : Value} (hf : fdC σ c = some (ob, d)) (ho : ob) (hu : RC g w none c u) :
    (idC c = none → ∀ p, Rep (calG g gs bs).S (calG g gs bs).up w p d u) ∧ (∀ i j l, idC c = some i → (i, j, l) ∈ gs → nodB (gvN gs) = true → Rep (calG g gs bs).S (calG g gs bs).up w (some (.par j l)) d u) ∧ (∀ i, idC c = some i → i ∈ bs → ∀ p, Rep (calG g gs bs).S (calG g gs bs).up w p (frz d) u) := by
  rcases fdC_ok h hf ho hu with ⟨q1, q2⟩ | ⟨i, q1, q2⟩
  · refine ⟨fun _ p => ?_, fun i j l q => (by rw [q1] at q; cases q), fun i q => (by rw [q1] at q; cases q)⟩
    have m : Mv (fun _ => False) (fun p => p) g (calG g gs bs) w w := ⟨fun b hb => ⟨.inl hb, rfl⟩, fun b p _ q => q.elim, fun b p o _ q => q.elim⟩
    exact (Rep.move m q2 (fun q hq => by cases hq)).any p
  · refine ⟨fun q => (by rw [q1] at q; cases q), fun i' j l q hm hn => ?_, fun i' q hm p => ?_⟩
    · rw [q1] at q; injection q with q; subst q
      have m : Mv (PU g.up (fun i => i ∈ gvN gs)) (pinG gs) g (calG g gs bs) w w := by
        refine ⟨fun b hb => ⟨.inl hb, rfl⟩, fun b p hb hp => ⟨?_, rfl⟩, fun b p o hb hp => ⟨(und_iff hb).2 hp, rfl⟩⟩
        rw [calG_in ((und_iff hb).2 hp), hb]; rfl
      have := Rep.move m q2 (fun q hq => by injection hq with hq; subst hq; exact List.mem_map.2 ⟨_, hm, rfl⟩)
      simp only [Option.map_some, pinG, gvF_of hn hm] at this
      exact this
    · rw [q1] at q; injection q with q; subst q
      exact (q2.froz (S' := (calG g gs bs).S) (up' := (calG g gs bs).up) (R := fun i => i ∈ bs) (fun b => .inl) (fun b => .inr) (fun q hq => by injection hq with hq; subst hq; exact hm)).any p
end
/-! ### the frame behind a call -/
def cellV (v : Value) (l : Nat) : Value := match v with
  | .agg c => c.getD l undef
  | v => v
def compV (v : Value) (m : Nat) : Value := match v with
  | .tuple c => c.getD m undef
  | v => v
def cellD (d : D) (l : Nat) : Option D := match d with
  | .ag xs => xs[l]?
  | d => if l = 0 then some d else none
def compD (r : D) (m : Nat) : Option D := match r with
  | .tup xs => xs[m]?
  | d => if m = 0 then some d else none
def ansB (d i : Nat) : Bool := decide (i % 1000 = d) && (decide (1000 ≤ i) && decide (i < 900000))
def ansO (d : Nat) (r : D) (i : Nat) : Option Ob := if ansB d i = true then (compD r ((i / 1000 - 1) / 20)).bind fun c => (cellD c ((i / 1000 - 1) % 20)).bind unfD else none
def outO (outs : List D) : List Gv → Nat → Option Ob
  | [], _ => none
  | (n, j, l) :: r, i => if i = n then (outs[j]?).bind fun c => (cellD c l).bind unfD else outO outs r i
def inG : List Gv → Nat → Bool
  | [], _ => false
  | (n, _, _) :: r, i => (i == n) || inG r i
def qCal (d : Nat) (gs : List Gv) (outs : List D) (i : Nat) : Bool := !ansB d i && !(inG gs i && (outO outs gs i).isNone)
def St.cal (σ : St) (d : Nat) (gs : List Gv) (r : D) (outs : List D) : St :=
  ⟨fun i => scT (qCal d gs outs) (σ.t i), fun i => match ansO d r i with
    | some o => some o
    | none => match outO outs gs i with
      | some o => if ansB d i = true then none else some o
      | none => if ansB d i = true ∨ inG gs i = true then none else (σ.b i).map (scO (qCal d gs outs))⟩
def shC (d m l : Nat) : D → D
  | .osl _ k rows => .bs (ansN d m l) k rows.length
  | .opt _ => .bx (ansN d m l) 0
  | c => c
def shL (d m : Nat) : Nat → List D → List D
  | _, [] => []
  | l, c :: r => shC d m l c :: shL d m (l + 1) r
def shE (d m : Nat) : D → D
  | .ag xs => .ag (shL d m 0 xs)
  | c => shC d m 0 c
def shM (d : Nat) : Nat → List D → List D
  | _, [] => []
  | m, c :: r => shE d m c :: shM d (m + 1) r
def shA (d : Nat) : D → D
  | .tup xs => .tup (shM d 0 xs)
  | c => shE d 0 c
def lenE : D → Bool
  | .ag xs => decide (xs.length ≤ 20)
  | .tup _ => false
  | .mb _ _ => false
  | _ => true
def lenT : D → Bool
  | .tup xs => decide (xs.length ≤ 40) && xs.all lenE
  | c => lenE c
theorem inG_iff {gs : List Gv} {i : Nat} : inG gs i = true ↔ i ∈ gvN gs := by
  induction gs with
  | nil => simp [inG, gvN]
  | cons p r ih => obtain ⟨n, j, l⟩ := p; simp [inG, gvN] at ih ⊢; rw [ih]
theorem outO_some {outs : List D} {gs : List Gv} {i : Nat} {o : Ob} (h : outO outs gs i = some o) : ∃ j l c d, (i, j, l) ∈ gs ∧ outs[j]? = some c ∧ cellD c l = some d ∧ unfD d = some o := by
  induction gs with
  | nil => cases h
  | cons p r ih =>
    obtain ⟨n, j, l⟩ := p
    simp only [outO] at h
    split at h
    · rename_i e
      subst e
      obtain ⟨c, h1, h2⟩ := Option.bind_eq_some_iff.1 h
      obtain ⟨d, h3, h4⟩ := Option.bind_eq_some_iff.1 h2
      exact ⟨j, l, c, d, by simp, h1, h3, h4⟩
    · obtain ⟨j', l', c, d, h1, h2⟩ := ih h
      exact ⟨j', l', c, d, List.mem_cons_of_mem _ h1, h2⟩
theorem shL_at (d m : Nat) : ∀ (l : List D) (q j : Nat), (shL d m q l)[j]? = (l[j]?).map (shC d m (q + j))
  | [], q, j => by simp [shL]
  | c :: l, q, 0 => by simp [shL]
  | c :: l, q, j + 1 => by
    rw [shL, List.getElem?_cons_succ, shL_at d m l (q + 1) j, List.getElem?_cons_succ]
    congr 2; omega
theorem shM_at (d : Nat) : ∀ (l : List D) (q j : Nat), (shM d q l)[j]? = (l[j]?).map (shE d (q + j))
  | [], q, j => by simp [shM]
  | c :: l, q, 0 => by simp [shM]
  | c :: l, q, j + 1 => by
    rw [shM, List.getElem?_cons_succ, shM_at d l (q + 1) j, List.getElem?_cons_succ]
    congr 2; omega
theorem shL_len (d m : Nat) (l : List D) (q : Nat) : (shL d m q l).length = l.length := by
  induction l generalizing q with
  | nil => rfl
  | cons c l ih => simp [shL, ih]
theorem shM_len (d : Nat) (l : List D) (q : Nat) : (shM d q l).length = l.length := by
  induction l generalizing q with
  | nil => rfl
  | cons c l ih => simp [shM, ih]
end Go.Proofs.YtgcdbmcoendcdaaGreat

namespace Go.Proofs.YtgcdbmcoendcdaaGreat
set_option linter.unusedVariables false
set_option linter.unusedSimpArgs false
open Go.RowKit
theorem cellV_one {v : Value} (h : v.oneCell' = true) (l : Nat) : cellV v l = v := by cases v <;> first | rfl | cases h
theorem compV_one {v : Value} (h : v.oneCell' = true) (m : Nat) : compV v m = v := by cases v <;> first | rfl | cases h
theorem lgetD {us : List Value} {m : Nat} {u : Value} (h : us[m]? = some u) : us.toArray.getD m undef = u := getD_toList (by simpa using h)
theorem RN_at {g : Gh} {w : World} {m : Nat} {x : D} {u : Value} (h : RN g w m x u) {l : Nat} {c : D} (hc : cellD x l = some c) : c = .un ∨ Rep g.S g.up w (some (.ans m l)) c (cellV u l) := by
  have one : ∀ d : D, Rep g.S g.up w (some (.ans m 0)) d u → (if l = 0 then some d else none) = some c → c = .un ∨ Rep g.S g.up w (some (.ans m l)) c (cellV u l) := by
    intro d h' hc'
    split at hc'
    · rename_i e; subst e; injection hc' with hc'; subst hc'
      rw [cellV_one h'.one]; exact .inr h'
    · cases hc'
  cases x with
  | un => simp only [cellD] at hc; split at hc; (injection hc with hc; exact .inl hc.symm); cases hc
  | ag xs =>
    obtain ⟨us, rfl, h1, h2⟩ := h
    have hl : l < us.length := by rw [h1]; exact (List.getElem?_eq_some_iff.1 hc).1
    have hu := List.getElem?_eq_getElem hl
    have : cellV (.agg us.toArray) l = us[l] := lgetD hu
    rw [this]
    exact .inr (h2 l c _ hc hu)
  | _ => simp only [RN] at h; exact one _ h hc
theorem RNs_at {g : Gh} {w : World} {r : D} {v : Value} (h : RNs g w r v) {m l : Nat} {x c : D} (hx : compD r m = some x) (hc : cellD x l = some c) : c = .un ∨ Rep g.S g.up w (some (.ans m l)) c (cellV (compV v m) l) := by
  have one : ∀ d : D, RN g w 0 d v → (if m = 0 then some d else none) = some x → c = .un ∨ Rep g.S g.up w (some (.ans m l)) c (cellV (compV v m) l) := by
    intro d h' hx'
    split at hx'
    · rename_i e; subst e; injection hx' with hx'; subst hx'
      have q := RN_at h' hc
      cases d with
      | un => simp only [cellD] at hc; split at hc; (injection hc with hc; exact .inl hc.symm); cases hc
      | ag xs => obtain ⟨us, rfl, h1, h2⟩ := h'; exact q
      | tup _ => simp only [RN] at h'; cases h'
      | mb _ _ => simp only [RN] at h'; cases h'
      | bx _ _ => simp only [RN] at h'; cases h'
      | el _ _ _ _ => simp only [RN] at h'; cases h'
      | bs _ _ _ => simp only [RN] at h'; cases h'
      | _ => simp only [RN] at h'; rw [compV_one h'.one]; exact q
    · cases hx'
  cases r with
  | tup xs =>
    obtain ⟨us, rfl, h1, h2⟩ := h
    have hl : m < us.length := by rw [h1]; exact (List.getElem?_eq_some_iff.1 hx).1
    have hu := List.getElem?_eq_getElem hl
    have : compV (.tuple us.toArray) m = us[m] := lgetD hu
    rw [this]
    exact RN_at (h2 m x _ hx hu) hc
  | _ => simp only [RNs] at h; exact one _ h hx
theorem RU_at {g : Gh} {w : World} {j : Nat} {x : D} {u : Value} (h : RU g w j x u) {l : Nat} {c : D} (hc : cellD x l = some c) : c = .un ∨ Rep g.S g.up w (some (.par j l)) c (cellV u l) := by
  have one : ∀ d : D, Rep g.S g.up w (some (.par j 0)) d u → (if l = 0 then some d else none) = some c → c = .un ∨ Rep g.S g.up w (some (.par j l)) c (cellV u l) := by
    intro d h' hc'
    split at hc'
    · rename_i e; subst e; injection hc' with hc'; subst hc'
      rw [cellV_one h'.one]; exact .inr h'
    · cases hc'
  cases x with
  | un => simp only [cellD] at hc; split at hc; (injection hc with hc; exact .inl hc.symm); cases hc
  | ag xs =>
    obtain ⟨us, rfl, h1, h2⟩ := h
    have hl : l < us.length := by rw [h1]; exact (List.getElem?_eq_some_iff.1 hc).1
    have hu := List.getElem?_eq_getElem hl
    have : cellV (.agg us.toArray) l = us[l] := lgetD hu
    rw [this]
    exact h2 l c _ hc hu
  | _ => simp only [RU] at h; exact one _ h hc
theorem Pure.cell {x c : D} (h : Pure x) {l : Nat} (hc : cellD x l = some c) : Pure c := by
  cases x with
  | ag xs => cases h with | ag h => exact h l c hc
  | _ => simp only [cellD] at hc; split at hc; (injection hc with hc; subst hc; exact h); cases hc
theorem Pure.comp {x c : D} (h : Pure x) {l : Nat} (hc : compD x l = some c) : Pure c := by
  cases x with
  | tup xs => cases h with | tup h => exact h l c hc
  | _ => simp only [compD] at hc; split at hc; (injection hc with hc; subst hc; exact h); cases hc
theorem Und.some {up : Nat → Option Pos} {R : Nat → Prop} {b : Nat} (h : Und up R b) : ∃ i, R i := by
  induction h with
  | root _ h => exact ⟨_, h⟩
  | cell _ _ ih => exact ih
theorem ansB_ok {d m l : Nat} (hd : d < 1000) (hm : m < 40) (hl : l < 20) : ansB d (ansN d m l) = true ∧ ((ansN d m l) / 1000 - 1) / 20 = m ∧ ((ansN d m l) / 1000 - 1) % 20 = l := by
  unfold ansB ansN
  have h1 : (1000 * (20 * m + l + 1) + d) / 1000 = 20 * m + l + 1 := by omega
  rw [h1]
  refine ⟨?_, by omega, by omega⟩
  simp only [Bool.and_eq_true, decide_eq_true_eq]
  omega
theorem ansB_inv {d i : Nat} (h : ansB d i = true) : ansN d ((i / 1000 - 1) / 20) ((i / 1000 - 1) % 20) = i ∧ isP i = false := by
  unfold ansB at h
  simp only [Bool.and_eq_true, decide_eq_true_eq] at h
  unfold ansN isP
  refine ⟨by omega, ?_⟩
  simp only [Bool.and_eq_false_iff, decide_eq_false_iff_not]
  omega
theorem Rep.shC {g : Gh} {w : World} {d m l : Nat} {c : D} {u : Value} (h : Rep g.S g.up w (some (.root (ansN d m l))) c u) (hβ : g.β (ansN d m l) = blkV u) (hκ : g.κ (ansN d m l) = capV u) : RC g w none (shC d m l c) u := by
  cases c with
  | osl e k rows =>
    show u = .slice ((g.β (ansN d m l)).map _) _ _ ∧ _
    rw [hβ, hκ]
    cases h with
    | osl0 => exact ⟨rfl, Nat.zero_le _, by simp [capV, maxLen], fun _ => rfl⟩
    | osl cs' r1 r2 r3 r4 r5 r6 r7 => exact ⟨rfl, r3, r4, fun q => by cases q⟩
  | opt r =>
    cases h with
    | opt cs' r1 r2 r3 r4 => exact ⟨_, hβ, rfl⟩
  | _ => exact (h.free (fun _ _ _ q => by cases q) (fun _ q => by cases q) none).rc
theorem Rel.call {x : Cx} {g : Gh} {σ : St} {a : Act} {w : World} (hr : Rel x g σ a w) {d : Nat} (hd : d < 1000) {gs : List Gv} {bs : List Nat} {vs : List Value} (hnd : nodB (gvN gs) = true) (hnk : nodB (gvK gs) = true) (hdis : ∀ b ∈ bs, b ∉ gvN gs)
    (hgv : ∀ i j l, (i, j, l) ∈ gs → (∃ o, σ.b i = some o) ∧ ∃ u, vs[j]? = some u ∧ ((∃ k n, RC g w none (.bs i k n) (cellV u l)) ∨ RC g w none (.bx i 0) (cellV u l))) {w' : World} {g' : Gh} {r : D} {outs : List D} {v : Value}
    (b1 : Below 0 w w') (b2 : ∀ b, b < w.heap.size → (calG g gs bs).up b = none → w'.heap[b]? = w.heap[b]?) (b3 : ∀ b, (calG g gs bs).S b → g'.S b) (b4 : ∀ b, b < w.heap.size → g'.S b → (calG g gs bs).S b ∨ (calG g gs bs).up b ≠ none) (b5 : ∀ b, g'.S b → b < w'.heap.size)
    (b6 : ∀ b p, g'.up b = some p → b < w'.heap.size ∧ (b < w.heap.size → (calG g gs bs).up b ≠ none) ∧ ¬ g'.S b) (b7 : RNs g' w' r v) (b8 : ∀ (j : Nat) (d : D) (u : Value), outs[j]? = some d → vs[j]? = some u → RU g' w' j d u)
    (hpu : bs = [] ∨ (Pure r ∧ ∀ o ∈ outs, Pure o)) (hlen : lenT r = true) : ∃ ga, Rel x ga (σ.cal d gs r outs) a w' ∧ RT ga w' (shA d r) v := by
  classical
  let Rg : Nat → Prop := fun i => i ∈ gvN gs
  let Rb : Nat → Prop := fun i => i ∈ bs
  let f : Nat → Value := fun i => cellV (compV v ((i / 1000 - 1) / 20)) ((i / 1000 - 1) % 20)
  let ga : Gh := ⟨fun i => if ansB d i = true then blkV (f i) else g.β i, fun i => if ansB d i = true then capV (f i) else g.κ i, fun b => if b < w.heap.size ∧ ¬ Und g.up Rg b then g.up b else (g'.up b).map (poutG gs d), fun b => g'.S b ∧ ¬ Und g.up Rb b⟩
  have hout : ∀ b, ¬ Und g.up Rg b → (calG g gs bs).up b = none := fun b q => Classical.byContradiction fun e => q (calG_out.1 e)
  have ev : Ev (fun p => ¬ PU g.up Rg p) (fun p => p) (qCal d gs outs) (fun i => !ansB d i && !inG gs i) g ga w w' := by
    refine ⟨⟨fun b hb => ⟨⟨b3 b (.inl hb), fun q => (hr.und q).2.2 hb⟩, b2 b (hr.new b hb) (hout b fun q => (hr.und q).2.2 hb)⟩, fun b p hb hp => ?_, fun b p o hb hp => ⟨fun q => hp ((und_iff hb).1 q), rfl⟩⟩, fun i hi => ?_, fun i hi => ?_⟩
    · have hn : ¬ Und g.up Rg b := fun q => hp ((und_iff hb).1 q)
      have hlt := (hr.own b p hb).1
      refine ⟨?_, b2 b hlt (hout b hn)⟩
      show (if _ then _ else _) = _
      rw [if_pos ⟨hlt, hn⟩]; exact hb
    · simp only [qCal, Bool.and_eq_true, Bool.not_eq_true'] at hi
      exact ⟨by show (if _ then _ else _) = _; rw [if_neg (by rw [hi.1]; simp)], by show (if _ then _ else _) = _; rw [if_neg (by rw [hi.1]; simp)]⟩
    · simp only [Bool.and_eq_true, Bool.not_eq_true'] at hi
      refine ⟨by simp [qCal, hi.1, hi.2], fun q => ?_, rfl⟩
      have : inG gs i = true := inG_iff.2 q
      rw [hi.2] at this; cases this
  have hR := hr.ev ev b1 (fun b hb hg => b2 b (by have := hr.bel.size; omega) (hout b fun q => hg ((hr.und q).2.1 hb))) (fun b hb hs => by
    rcases b4 b (by have := hr.bel.size; omega) hs.1 with (q | q) | q
    · exact .inl q
    · exact absurd q hs.2
    · exact .inr ((hr.und (calG_out.1 q)).2.1 hb)) (fun b hs => b5 b hs.1) (fun b p hp => by
    simp only [ga] at hp
    split at hp
    · rename_i q
      obtain ⟨o1, o2, o3⟩ := hr.own b p hp
      refine ⟨by have := b1.size; omega, o2, fun hs => ?_⟩
      rcases b4 b q.1 hs.1 with (r | r) | r
      · exact o3 r
      · exact hs.2 r
      · exact q.2 (calG_out.1 r)
    · obtain ⟨p', hp', -⟩ := Option.map_eq_some_iff.1 hp
      obtain ⟨o1, o2, o3⟩ := b6 b p' hp'
      exact ⟨o1, fun q => (hr.und (calG_out.1 (o2 (by have := hr.bel.size; omega)))).2.1 q, fun hs => o3 hs.1⟩)
  have hmv : ∀ (p : Option Pos) (c : D) (u : Value), Rep g'.S g'.up w' p c u → (bs = [] ∨ Pure c) → Rep ga.S ga.up w' (p.map (poutG gs d)) c u := fun p c u h hp => by
    refine Rep.pmove (fun b p hb => ⟨?_, rfl⟩) (fun b o => rfl) h (hp.imp (fun q b hs => ⟨⟨hs, fun e => ?_⟩, rfl⟩) id)
    · show (if _ then _ else _) = _
      rw [if_neg (fun q => q.2 (calG_out.1 ((b6 b p hb).2.1 q.1))), hb]; rfl
    · obtain ⟨i, hi⟩ := e.some
      simp only [Rb, q] at hi
      cases hi
  have hcell : ∀ (m l : Nat) (y c : D), compD r m = some y → cellD y l = some c → c = .un ∨ Rep ga.S ga.up w' (some (.root (ansN d m l))) c (cellV (compV v m) l) := fun m l y c h1 h2 => by
    rcases RNs_at b7 h1 h2 with q | q
    · exact .inl q
    · exact .inr (hmv _ _ _ q (hpu.imp id fun p => (p.1.comp h1).cell h2))
  have hβ : ∀ i, ansB d i = true → ga.β i = blkV (f i) ∧ ga.κ i = capV (f i) := fun i hi => ⟨by show (if _ then _ else _) = _; rw [if_pos hi], by show (if _ then _ else _) = _; rw [if_pos hi]⟩
  have hRC : ∀ (m l : Nat) (y c : D) (u : Value), m < 40 → l < 20 → compD r m = some y → cellD y l = some c → cellV (compV v m) l = u → RE ga w' (shC d m l c) u ∧ (c ≠ .un → RC ga w' none (shC d m l c) u) := fun m l y c u hm hl h1 h2 e => by
    obtain ⟨a1, a2, a3⟩ := ansB_ok hd hm hl
    have hf : f (ansN d m l) = u := by show cellV (compV v _) _ = u; rw [a2, a3]; exact e
    obtain ⟨c1, c2⟩ := hβ _ a1
    rw [hf] at c1 c2
    rcases hcell m l y c h1 h2 with q | q
    · subst q; exact ⟨trivial, fun q => absurd rfl q⟩
    · rw [e] at q
      have := q.shC c1 c2
      exact ⟨this.re, fun _ => this⟩
  refine ⟨ga, ⟨hR.bel, hR.fr, hR.dfr, hR.sz, hR.tm, hR.s0, hR.old, hR.new, hR.own, fun i o hi => ?_, fun i o hi hq => ?_⟩, ?_⟩
  · simp only [St.cal] at hi
    split at hi
    · rename_i o' ho
      injection hi with hi; subst hi
      unfold ansO at ho
      split at ho
      · rename_i hb
        obtain ⟨y, h1, h2⟩ := Option.bind_eq_some_iff.1 ho
        obtain ⟨c, h3, h4⟩ := Option.bind_eq_some_iff.1 h2
        rcases hcell _ _ y c h1 h3 with q | q
        · subst q; cases h4
        · rw [(ansB_inv hb).1] at q
          exact q.ro h4 (hβ i hb).1 (fun _ _ _ _ => (hβ i hb).2)
      · cases ho
    · split at hi
      · rename_i o' ho
        split at hi
        · cases hi
        · rename_i hb
          injection hi with hi; subst hi
          obtain ⟨j, l, y, c, m1, m2, m3, m4⟩ := outO_some ho
          obtain ⟨-, u, u1, u2⟩ := hgv i j l m1
          have hq := RU_at (b8 j y u m2 u1) m3
          rcases hq with q | q
          · subst q; cases m4
          · have q := hmv _ _ _ q (hpu.imp id fun p => (p.2 y (List.mem_of_getElem? m2)).cell m3)
            simp only [Option.map_some, poutG, gvB_of hnk m1] at q
            have e1 : ga.β i = g.β i := by show (if _ then _ else _) = _; rw [if_neg hb]
            have e2 : ga.κ i = g.κ i := by show (if _ then _ else _) = _; rw [if_neg hb]
            rcases u2 with ⟨k, n, u2⟩ | u2
            · obtain ⟨hu, -, -, u3⟩ := u2
              rw [hu] at q
              refine q.ro m4 ?_ fun e k' rows hc => ?_
              · rw [e1]; cases g.β i <;> rfl
              · rw [e2]
                cases hg : g.β i with
                | none => rw [u3 hg]; rfl
                | some b => rfl
            · obtain ⟨b, hb', hu⟩ := u2
              rw [hu] at q
              refine q.ro m4 (by rw [e1, hb']; rfl) fun e k' rows hc => ?_
              subst hc
              cases q
      · split at hi
        · cases hi
        · rename_i hn
          refine hR.ob i o ?_
          simp only [St.sc]
          rw [if_pos (by simp only [Bool.and_eq_true, Bool.not_eq_true']; simp only [not_or, Bool.not_eq_true] at hn; exact hn)]
          exact hi
  · have hna : ansB d i = false := by
      cases hb : ansB d i with
      | false => rfl
      | true => rw [(ansB_inv hb).2] at hq; cases hq
    have e1 : ga.β i = g.β i := by show (if _ then _ else _) = _; rw [if_neg (by rw [hna]; simp)]
    have e2 : ga.κ i = g.κ i := by show (if _ then _ else _) = _; rw [if_neg (by rw [hna]; simp)]
    have hex : ∃ o', σ.b i = some o' := by
      simp only [St.cal] at hi
      split at hi
      · rename_i o' ho
        unfold ansO at ho
        rw [hna] at ho; simp at ho
      · split at hi
        · rename_i o' ho
          obtain ⟨j, l, y, c, m1, -⟩ := outO_some ho
          exact (hgv i j l m1).1
        · split at hi
          · cases hi
          · obtain ⟨o', q, -⟩ := Option.map_eq_some_iff.1 hi; exact ⟨o', q⟩
    obtain ⟨o', ho'⟩ := hex
    rw [e1, e2]; exact hr.par i o' ho' hq
  · have hE : ∀ (m : Nat) (y : D) (u : Value), m < 40 → lenE y = true → compD r m = some y → compV v m = u → RN g' w' m y u → RE ga w' (shE d m y) u := by
      intro m y u hm hly h1 hu hN
      have one : ∀ u', cellD y 0 = some y → cellV u 0 = u' → RE ga w' (shC d m 0 y) u' := fun u' h2 e => (hRC m 0 y y u' hm (by omega) h1 h2 (by rw [hu]; exact e)).1
      cases y with
      | un => trivial
      | ag xs =>
        obtain ⟨us, rfl, n1, n2⟩ := hN
        simp only [lenE, decide_eq_true_eq] at hly
        refine ⟨us, rfl, by rw [shL_len, n1], fun l c z hc hz => ?_⟩
        rw [shL_at, Nat.zero_add] at hc
        obtain ⟨c0, q1, rfl⟩ := Option.map_eq_some_iff.1 hc
        have hl : l < 20 := by have := (List.getElem?_eq_some_iff.1 q1).1; omega
        have hne : c0 ≠ .un := fun e => by subst e; cases n2 l _ z q1 hz
        exact (hRC m l _ c0 z hm hl h1 q1 (by rw [hu]; exact lgetD hz)).2 hne
      | tup _ => cases hly
      | mb _ _ => cases hly
      | _ => simp only [RN] at hN; exact one u rfl (cellV_one hN.one 0)
    cases r with
    | tup xs =>
      obtain ⟨us, rfl, n1, n2⟩ := b7
      simp only [lenT, Bool.and_eq_true, decide_eq_true_eq] at hlen
      refine ⟨us, rfl, by rw [shM_len, n1], fun m y u hy hu => ?_⟩
      rw [shM_at, Nat.zero_add] at hy
      obtain ⟨y0, q1, rfl⟩ := Option.map_eq_some_iff.1 hy
      exact hE m y0 u (by have := (List.getElem?_eq_some_iff.1 q1).1; omega) (List.all_eq_true.1 hlen.2 y0 (List.mem_of_getElem? q1)) q1 (lgetD hu) (n2 m y0 u q1 hu)
    | un => trivial
    | ag xs => exact (hE 0 (.ag xs) v (by omega) hlen rfl (by obtain ⟨us, rfl, -⟩ := b7; rfl) b7).rt
    | mb _ _ => cases hlen
    | _ => simp only [RNs, RN] at b7; simp only [lenT] at hlen; exact (hE 0 _ v (by omega) hlen rfl (compV_one b7.one 0) (by simp only [RN]; exact b7)).rt
end Go.Proofs.YtgcdbmcoendcdaaGreat
