import Derived.Test.YtngobmjdbjlkcaaGd
/- The second engine, fifth part: boxes and arrays made, written, grown. -/
namespace Go.Proofs.Ytngobmjdbjlkcaa
set_option linter.unusedVariables false
set_option linter.unusedSimpArgs false
open Go.RowKit
theorem Rep.any {S : Nat → Prop} {up : Nat → Option Pos} {w : World} {d : D} {v : Value} (h : Rep S up w none d v) (p : Option Pos) : Rep S up w p d v := by
  cases h with
  | s h => exact .s h
  | nil => exact .nil
  | np => exact .np
  | sl0 h => exact .sl0 h
  | sl us a b c d e => exact .sl us a b c d e
  | pt us a b => exact .pt us a b
  | fn us a => exact .fn us a
  | osl0 => exact .osl0
theorem RC.any {g : Gh} {w : World} {d : D} {v : Value} (h : RC g w none d v) (p : Option Pos) : RC g w p d v := by
  cases d with
  | bx id off => exact h
  | el id k i off => exact h
  | bs id k n => exact h
  | un => exact h
  | ag _ => exact h
  | tup _ => exact h
  | mb _ _ => exact h
  | _ => exact (Rep.any h p).rc
theorem alloc_at (w : World) (o : Obj) : (w.alloc o).heap[w.heap.size]? = some o := by show (w.heap.push o)[w.heap.size]? = _; simp
theorem alloc_size (w : World) (o : Obj) : (w.alloc o).heap.size = w.heap.size + 1 := by simp
def pOut : List Nat → Nat → Bool
  | [], _ => true
  | a :: l, i => (i != a) && pOut l i
theorem pOut_spec {l : List Nat} {i : Nat} (h : pOut l i = true) : ∀ a ∈ l, i ≠ a := by
  induction l with
  | nil => intro a ha; cases ha
  | cons b l ih =>
    simp only [pOut, Bool.and_eq_true, bne_iff_ne, ne_eq] at h
    intro a ha
    rcases List.mem_cons.1 ha with rfl | ha
    · exact h.1
    · exact ih h.2 a ha
def St.setB (σ : St) (d : Nat) (o : Ob) : St := ⟨σ.t, fun i => if i = d then some o else σ.b i⟩
theorem Rel.setB {x : Cx} {g : Gh} {σ : St} {a : Act} {w : World} (h : Rel x g σ a w) {id : Nat} {o : Ob} (ho : RO g w id o) (hp : isP id = true → g.β id = x.β0 id ∧ g.κ id = x.κ0 id) : Rel x g (σ.setB id o) a w :=
  ⟨h.bel, h.fr, h.dfr, h.sz, h.tm, h.s0, h.old, h.new, h.own, fun i o' hi => by
    simp only [St.setB] at hi
    split at hi
    · rename_i e; subst e; injection hi with hi; subst hi; exact ho
    · exact h.ob i o' hi, fun i o' hi hq => by
    simp only [St.setB] at hi
    split at hi
    · rename_i e; subst e; exact hp hq
    · exact h.par i o' hi hq⟩
/-- cells of a row, written over. -/
def lay {α : Type} (row : List α) (off : Nat) (xs : List α) : List α := row.take off ++ xs ++ row.drop (off + xs.length)
theorem lay_len {α : Type} {row : List α} {off : Nat} {xs : List α} (h : off + xs.length ≤ row.length) : (lay row off xs).length = row.length := by
  unfold lay; simp only [List.length_append, List.length_take, List.length_drop]; omega
theorem lay_at {α : Type} {row : List α} {off : Nat} {xs : List α} (h : off + xs.length ≤ row.length) (j : Nat) : (lay row off xs)[j]? = if off ≤ j ∧ j < off + xs.length then xs[j - off]? else row[j]? := by
  unfold lay
  have t1 : (row.take off).length = off := by rw [List.length_take]; omega
  rcases Nat.lt_or_ge j off with q | q
  · rw [List.append_assoc, List.getElem?_append_left (by omega), List.getElem?_take_of_lt q, if_neg (by omega)]
  · rw [List.append_assoc, List.getElem?_append_right (by omega), t1]
    rcases Nat.lt_or_ge (j - off) xs.length with r | r
    · rw [List.getElem?_append_left r, if_pos (by omega)]
    · rw [List.getElem?_append_right r, List.getElem?_drop, if_neg (by omega)]
      congr 1; omega
theorem getD_toList {cs : Array Value} {j : Nat} {u : Value} (h : cs.toList[j]? = some u) : cs.getD j undef = u := by
  rw [Array.getElem?_toList] at h
  rw [Array.getD_eq_getD_getElem?, h]; rfl
/-- a new box, in place of the last one of this name. -/
theorem Rel.newBox {x : Cx} {g : Gh} {σ : St} {a : Act} {w : World} (h : Rel x g σ a w) (d : Nat) (row : List D) (us : List Value) (ty : TypeId) (h1 : RCs g w row us) (hn : ∀ y ∈ row, scC (pOut [d]) y = y) (hdP : isP d = false) :
    ∃ g', Rel x g' ((σ.sc (pOut [d]) (pOut [d])).setB d (.box row)) a (w.alloc (.cells us.toArray ty)) ∧ g'.β d = some w.heap.size := by
  generalize hbn : w.heap.size = bn
  have hold : ∀ b, b < bn → (w.alloc (.cells us.toArray ty)).heap[b]? = w.heap[b]? := fun b hb => Below.heap_alloc _ _ _ (by omega)
  have ev : Ev (fun _ => True) id (pOut [d]) (pOut [d]) g ⟨fun i => if i = d then some bn else g.β i, g.κ, fun b => if b = bn then some (.root d) else g.up b, g.S⟩ w (w.alloc (.cells us.toArray ty)) := by
    refine ⟨⟨fun b hb => ⟨hb, hold b (by have := h.new b hb; omega)⟩, fun b p hb _ => ?_, fun b p o _ _ => ⟨trivial, rfl⟩⟩, fun i hi => ?_, fun i hi => ⟨hi, trivial, rfl⟩⟩
    · have hlt := (h.own b p hb).1
      refine ⟨?_, hold b (by omega)⟩
      show (if b = bn then _ else _) = _
      rw [if_neg (by omega)]; exact hb
    · have := pOut_spec hi d (by simp)
      exact ⟨by show (if i = d then _ else _) = _; rw [if_neg this], rfl⟩
  have hrow := h1.ev ev
  have hR := h.ev ev ((Below.refl _ _).alloc (Nat.zero_le _) _) (fun b hb hg => hold b (by have := h.bel.size; omega)) (fun b _ hs => .inl hs) (fun b hs => by rw [alloc_size]; have := h.new b hs; omega) (fun b p hb => by
    rw [alloc_size]
    simp only at hb
    split at hb
    · rename_i e
      subst e
      exact ⟨by omega, fun q => by have := h.bel.size; omega, fun q => by have := h.new _ q; omega⟩
    · obtain ⟨o1, o2, o3⟩ := h.own b p hb
      exact ⟨by omega, o2, o3⟩)
  refine ⟨_, hR.setB ⟨bn, us.toArray, ty, by simp, by simp, by rw [← hbn]; exact alloc_at _ _, by simp [h1.1], fun j y hy => ?_⟩ (fun q => by rw [hdP] at q; cases q), by simp⟩
  have hj : j < us.length := by rw [h1.1]; exact (List.getElem?_eq_some_iff.1 hy).1
  have hu : us[j]? = some us[j] := List.getElem?_eq_getElem hj
  rw [getD_toList (u := us[j]) (by simp)]
  have := hrow.2 j (scC (pOut [d]) y) us[j] (by rw [List.getElem?_map, hy]; rfl) hu
  rw [hn y (List.mem_of_getElem? hy)] at this
  exact this.any _
/-- a box is written. -/
theorem Rel.store {x : Cx} {g : Gh} {σ : St} {a : Act} {w : World} (h : Rel x g σ a w) (id off : Nat) (row xs : List D) (hb : σ.b id = some (.box row)) (us : List Value) (h1 : RCs g w xs us) (hl : off + xs.length ≤ row.length) {b : Nat} (hβ : g.β id = some b) :
    ∃ w', (storeCells ⟨b, off, none⟩ us).run x.P w = .ok () w' ∧ Rel x g (σ.setB id (.box (lay row off xs))) a w' := by
  obtain ⟨b', cs, ty, b1, b2, b3, b4, b5⟩ := h.ob id _ hb
  rw [hβ] at b1; injection b1 with b1; subst b1
  have hul := h1.1
  have hone : ∀ u ∈ us, u.oneCell' = true := fun u hu => by
    obtain ⟨j, hj, rfl⟩ := List.getElem_of_mem hu
    exact (h1.2 j (xs[j]'(by rw [← hul]; exact hj)) us[j] (by rw [List.getElem?_eq_getElem]) (by rw [List.getElem?_eq_getElem])).one
  have hr := run_storeCells_at x.P b off ty us 0 cs w b3 (by simp; omega) hone
  refine ⟨_, hr, ?_⟩
  simp only [Nat.add_zero]
  generalize hcs : (cs.toList.take off ++ us ++ cs.toList.drop (off + us.length)).toArray = cs'
  have hcsl : cs'.toList = lay cs.toList off us := by subst hcs; rfl
  have hcl : cs.toList.length = row.length := by rw [Array.length_toList, b4]
  have ev : Ev (fun p => p ≠ .root id) (fun p => p) pAll (pOut [id]) g g w (w.setRow b cs') := by
    refine ⟨⟨fun c hc => ⟨hc, setRow_other _ _ _ _ (fun e => (h.own b _ b2).2.2 (e ▸ hc))⟩, fun c p hc hp => ⟨hc, setRow_other _ _ _ _ (fun e => ?_)⟩, fun c p o _ _ => ⟨by simp, rfl⟩⟩, fun i _ => ⟨rfl, rfl⟩, fun i hi => ⟨rfl, ?_, rfl⟩⟩
    · subst e; rw [b2] at hc; injection hc with hc; exact hp hc.symm
    · have := pOut_spec hi id (by simp)
      intro e; injection e with e; exact this e
  have hR := h.ev ev ⟨rfl, rfl, rfl, by simp, fun c hc => by omega⟩ (fun c hc hg => setRow_other _ _ _ _ (fun e => hg (e ▸ (h.own b _ b2).2.1 (e ▸ hc)))) (fun c _ hs => .inl hs) (fun c hs => by simpa using h.new c hs) (fun c p hc => by simpa using h.own c p hc)
  have hrow := h1.ev ev
  rw [scC_all_map] at hrow
  have hset := hR.setB (id := id) (o := .box (lay row off xs)) ⟨b, cs', ty, hβ, b2, setRow_heap _ _ _ _ _ _ b3, by
    rw [lay_len hl, ← Array.length_toList, hcsl, lay_len (by omega), hcl], fun j y hy => ?_⟩ (h.par id _ hb)
  · refine ⟨hset.bel, hset.fr, hset.dfr, hset.sz, fun i => ?_, hset.s0, hset.old, hset.new, hset.own, fun i o hi => ?_, fun i o hi hq => ?_⟩
    · have := hset.tm i
      simp only [St.setB, St.sc, scT_all] at this
      exact this
    · simp only [St.setB] at hi
      split at hi
      · rename_i e; subst e
        exact hset.ob i o (by simp only [St.setB, if_true]; exact hi)
      · rename_i e
        refine hset.ob i o ?_
        simp only [St.setB, if_neg e, St.sc]
        rw [if_pos (by simp [pOut, e]), hi, Option.map_some, scO_all]
    · simp only [St.setB] at hi
      split at hi
      · rename_i e; subst e; exact h.par i _ hb hq
      · exact h.par i o hi hq
  · rw [lay_at hl] at hy
    have hg : cs'.getD j undef = (lay cs.toList off us).getD j undef := by
      rw [List.getD_eq_getElem?_getD, Array.getD_eq_getD_getElem?, ← hcsl, Array.getElem?_toList]
    split at hy
    · rename_i hj
      have hlt : j - off < us.length := by omega
      have hu : us[j - off]? = some us[j - off] := List.getElem?_eq_getElem hlt
      have := hrow.2 _ y _ hy hu
      rw [hg, List.getD_eq_getElem?_getD, lay_at (by omega), if_pos (by omega), hu]
      exact this.any _
    · rename_i hj
      have := (b5 j y hy).ev ev (fun z hz => by injection hz with hz; subst hz; simp)
      rw [scC_all] at this
      rw [hg, List.getD_eq_getElem?_getD, lay_at (by omega), if_neg (by omega), Array.getElem?_toList, ← Array.getD_eq_getD_getElem?]
      exact this
end Go.Proofs.Ytngobmjdbjlkcaa
