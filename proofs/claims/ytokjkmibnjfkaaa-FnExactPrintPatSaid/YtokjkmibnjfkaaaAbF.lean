/- The engine, sixth part: variables and the call's own slices. -/
import Derived.Test.YtokjkmibnjfkaaaAbE
namespace Go.Proofs.Ytokjkmibnjfkaaa
set_option linter.unusedVariables false
set_option linter.unusedSimpArgs false
open Go.RowKit
def pAll : Nat → Bool := fun _ => true
def pNot (d : Nat) : Nat → Bool := fun i => i != d
theorem scC_all (y : C) : scC pAll y = y := by cases y <;> simp [scC, pAll]
theorem scC_all_map (row : List C) : row.map (scC pAll) = row := by
  induction row with
  | nil => rfl
  | cons y l ih => rw [List.map_cons, scC_all, ih]
def St.setB (σ : St) (d : Nat) (row : List C) : St := ⟨σ.t, fun i => if i = d then some row else σ.b i⟩
theorem alloc_cell {w : World} {o : Obj} {b i : Nat} (h : b < w.heap.size) : (w.alloc o).cell? ⟨b, i, none⟩ = w.cell? ⟨b, i, none⟩ := by
  simp only [World.cell?, Below.heap_alloc w o b h]
theorem alloc_at (w : World) (o : Obj) : (w.alloc o).heap[w.heap.size]? = some o := by show (w.heap.push o)[w.heap.size]? = _; simp
theorem alloc_size (w : World) (o : Obj) : (w.alloc o).heap.size = w.heap.size + 1 := by simp
/-- a new variable, in place of the last one of this slot. -/
theorem Rel.newBox {x : Cx} {g : Gh} {σ : St} {a : Act} {w : World} (h : Rel x g σ a w) (d : Nat) (row : List C) (us : List Value) (ty : TypeId) (h1 : RCs x.B g w row us) (h2 : ∀ u ∈ us, u.oneCell' = true) :
    Rel x ⟨fun i => if i = d then w.heap.size else g.β i, g.τ, g.S⟩ ((σ.sc pAll (pNot d)).setB d row) a (w.alloc (.cells us.toArray ty)) := by
  have ev : Ev pAll (pNot d) g ⟨fun i => if i = d then w.heap.size else g.β i, g.τ, g.S⟩ w (w.alloc (.cells us.toArray ty)) := by
    refine ⟨⟨fun _ _ q => q, fun b o q => alloc_cell (h.new b o q)⟩, fun t _ => ⟨rfl, fun b hb => ⟨?_, fun _ => Iff.rfl⟩⟩, fun i hi => ?_⟩
    · exact Below.heap_alloc _ _ _ (h.tlt t b hb).2
    · simp only [pNot, bne_iff_ne, ne_eq] at hi
      simp [hi]
  have hlt : ∀ i, (σ.b i).isSome → g.β i < w.heap.size := by
    intro i hi
    obtain ⟨row, hr⟩ := Option.isSome_iff_exists.1 hi
    obtain ⟨-, -, ty, us, hh, -⟩ := h.bx i row hr
    rcases Nat.lt_or_ge (g.β i) w.heap.size with q | q
    · exact q
    · rw [Array.getElem?_eq_none q] at hh; cases hh
  have h0 := h.ev ev ((Below.refl _ _).alloc h.base _) (fun i hi hs => ⟨Below.heap_alloc _ _ _ (hlt i hs), ?_, fun tok => h.bt i tok hs⟩) (fun _ _ _ => Iff.rfl) (fun b o q => by rw [alloc_size]; have := h.new b o q; omega) h.tinj (fun i b q => by rw [alloc_size]; have := h.tlt i b q; omega)
  · have hev := h1.ev ev
    rw [scC_all_map] at hev
    refine ⟨h0.below, h0.base, h0.dfr, h0.sz, h0.tm, h0.old, h0.new, fun id r hr => ?_, fun i j hi hj e => ?_, fun i tok hi => ?_, h0.tinj, h0.tlt⟩
    · simp only [St.setB] at hr
      by_cases e : id = d
      · rw [if_pos e] at hr
        injection hr with hr
        subst hr
        simp only [if_pos e]
        exact ⟨h.base, fun o q => by have := h.new _ _ q; omega, ty, us, alloc_at _ _, h2, hev⟩
      · rw [if_neg e] at hr
        exact h0.bx id r hr
    · have key : ∀ i, ((St.setB (σ.sc pAll (pNot d)) d row).b i).isSome → i = d ∨ (i ≠ d ∧ (σ.b i).isSome) := by
        intro i hi
        simp only [St.setB, St.sc, pNot] at hi
        by_cases e : i = d
        · exact .inl e
        · rw [if_neg e] at hi
          simp [e] at hi
          exact .inr ⟨e, by simpa using hi⟩
      simp only at e
      rcases key i hi with q | ⟨q, qs⟩ <;> rcases key j hj with r | ⟨r, rs⟩
      · omega
      · rw [if_pos q, if_neg r] at e; have := hlt j rs; omega
      · rw [if_neg q, if_pos r] at e; have := hlt i qs; omega
      · rw [if_neg q, if_neg r] at e; exact h.binj i j qs rs e
    · by_cases e : i = d
      · simp only [if_pos e]
        intro q
        have := (h.tlt _ _ q).2
        omega
      · have hs : ((σ.sc pAll (pNot d)).b i).isSome := by
          simp only [St.setB] at hi
          rwa [if_neg e] at hi
        exact h0.bt i tok hs
  · obtain ⟨row, hr⟩ := Option.isSome_iff_exists.1 hs
    exact (h.bx i row hr).2.1
/-- cells of a variable, written over. -/
def lay {α : Type} (row : List α) (off : Nat) (xs : List α) : List α := row.take off ++ xs ++ row.drop (off + xs.length)
theorem Rel.store {x : Cx} {g : Gh} {σ : St} {a : Act} {w : World} (h : Rel x g σ a w) (id off : Nat) (row xs : List C) (hb : σ.b id = some row) (us : List Value) (h1 : RCs x.B g w xs us) (h2 : ∀ u ∈ us, u.oneCell' = true) (hl : off + xs.length ≤ row.length) :
    ∃ w', (storeCells ⟨g.β id, off, none⟩ us).run x.P w = .ok () w' ∧ Rel x g (σ.setB id (lay row off xs)) a w' := by
  obtain ⟨b1, b2, ty, vs, b3, b4, b5, b6⟩ := h.bx id row hb
  have hul := h1.1
  have hr := run_storeCells_at x.P (g.β id) off ty us 0 vs.toArray w b3 (by simp; omega) h2
  refine ⟨_, hr, ?_⟩
  simp only [Nat.add_zero]
  generalize hcs : (vs.take off ++ us ++ vs.drop (off + us.length)) = cs
  have ev : Ev pAll pAll g g w (w.setRow (g.β id) cs.toArray) := by
    refine ⟨⟨fun _ _ q => q, fun b o q => cell_setRow_other _ _ _ _ (fun e => b2 o (by have e : b = g.β id := e; rw [← e]; exact q))⟩, fun t _ => ⟨rfl, fun b hb' => ⟨setRow_other _ _ _ _ (fun e => ?_), fun _ => Iff.rfl⟩⟩, fun i hi => rfl⟩
    exact h.bt id t (by rw [hb]; rfl) (by rw [hb', e])
  have hev := h1.ev ev
  rw [scC_all_map] at hev
  have htm : ∀ i, RT x.B g (w.setRow (g.β id) cs.toArray) (σ.t i) (a.tmps.getD i undef) := by
    intro i
    have q := (h.tm i).ev ev
    have : scT pAll pAll (σ.t i) = σ.t i := by
      have he : ∀ y, scE pAll pAll y = y := by
        intro y
        cases y <;> simp [scE, pAll, ← pAll.eq_1, scC_all_map]
      cases σ.t i <;> simp [scT, he, List.map_id'']
    rw [this] at q; exact q
  refine ⟨h.below.trans ⟨rfl, rfl, rfl, by simp, fun k hk => setRow_other _ _ _ _ (by omega)⟩, by simpa using h.base, h.dfr, h.sz, htm, h.old, fun b o q => by simpa using h.new b o q, fun i r hr => ?_, fun i j hi hj => ?_, fun i tok hi => ?_, h.tinj, fun i b q => by simpa using h.tlt i b q⟩
  · simp only [St.setB] at hr
    by_cases e : i = id
    · subst e
      rw [if_pos rfl] at hr
      injection hr with hr
      subst hr
      have hcsl : cs.length = (lay row off xs).length := by
        subst hcs
        simp only [lay, List.length_append, List.length_take, List.length_drop, b5, hul]
      refine ⟨b1, b2, ty, cs, setRow_heap _ _ _ _ _ _ b3, fun u hu => ?_, hcsl, fun j y u hy hu => ?_⟩
      · subst hcs
        rcases List.mem_append.1 hu with hu | hu
        · rcases List.mem_append.1 hu with hu | hu
          · exact b4 u (List.mem_of_mem_take hu)
          · exact h2 u hu
        · exact b4 u (List.mem_of_mem_drop hu)
      · subst hcs
        have hold : ∀ (j : Nat) (y : C) (u : Value), row[j]? = some y → vs[j]? = some u → RC x.B g (w.setRow (g.β i) ((vs.take off ++ us ++ vs.drop (off + us.length))).toArray) y u := by
          intro j y u q1 q2
          have := (b6 j y u q1 q2).ev ev
          rwa [scC_all] at this
        unfold lay at hy
        have t1 : (row.take off).length = off := by rw [List.length_take]; omega
        have t2 : (vs.take off).length = off := by rw [List.length_take]; omega
        rcases Nat.lt_or_ge j off with q | q
        · rw [List.append_assoc, List.getElem?_append_left (by omega), List.getElem?_take_of_lt q] at hy hu
          exact hold j y u hy hu
        · rw [List.append_assoc, List.getElem?_append_right (by omega)] at hy hu
          rw [t1] at hy
          rw [t2] at hu
          rcases Nat.lt_or_ge (j - off) xs.length with r | r
          · rw [List.getElem?_append_left (by omega)] at hy hu
            exact hev.2 _ y u hy hu
          · rw [List.getElem?_append_right (by omega), List.getElem?_drop] at hy hu
            rw [hul] at hu
            exact hold _ y u hy hu
    · rw [if_neg e] at hr
      obtain ⟨c1, c2, ty', vs', c3, c4, c5⟩ := h.bx i r hr
      have hne : g.β i ≠ g.β id := fun q => e (h.binj i id (by rw [hr]; rfl) (by rw [hb]; rfl) q)
      have hev' := c5.ev ev
      rw [scC_all_map] at hev'
      exact ⟨c1, c2, ty', vs', (setRow_other _ _ _ _ hne).trans c3, c4, hev'⟩
  · have key : ∀ i, ((σ.setB id (lay row off xs)).b i).isSome → (σ.b i).isSome := by
      intro i hi
      simp only [St.setB] at hi
      by_cases e : i = id
      · rw [e, hb]; rfl
      · rwa [if_neg e] at hi
    exact h.binj i j (key i hi) (key j hj)
  · refine h.bt i tok ?_
    simp only [St.setB] at hi
    by_cases e : i = id
    · rw [e, hb]; rfl
    · rwa [if_neg e] at hi
end Go.Proofs.Ytokjkmibnjfkaaa
