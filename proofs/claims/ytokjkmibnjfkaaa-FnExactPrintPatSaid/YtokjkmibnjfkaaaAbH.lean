/- The engine, eighth part: operations that make or change memory. -/
import Derived.Test.YtokjkmibnjfkaaaAbG
namespace Go.Proofs.Ytokjkmibnjfkaaa
set_option linter.unusedVariables false
set_option linter.unusedSimpArgs false
open Go.RowKit
theorem lay_foldl : ∀ (vs : List Value) (cs : Array Value) (off k : Nat), off + k + vs.length ≤ cs.size →
    ((vs.zipIdx k).foldl (fun cs (p : Value × Nat) => cs.setIfInBounds (off + p.2) p.1) cs).toList = lay cs.toList (off + k) vs
  | [], cs, off, k, h => by simp [lay]
  | v :: vs, cs, off, k, h => by
    simp only [List.length_cons] at h
    rw [List.zipIdx_cons, List.foldl_cons, lay_foldl vs _ off (k + 1) (by simp; omega)]
    unfold lay
    have hl : off + k < cs.toList.length := by rw [Array.length_toList]; omega
    rw [Array.toList_setIfInBounds, List.length_cons, show off + (k + 1) = off + k + 1 by omega, show off + k + (vs.length + 1) = off + k + 1 + vs.length by omega]
    rw [List.drop_set_of_lt (by omega), List.take_add_one, List.getElem?_set_self hl, List.take_set, List.set_eq_of_length_le (by simp; exact Nat.min_le_left _ _)]
    simp
theorem fill_step {place : Nat → Option (Nat × Nat)} {cells : Array Value} {i off sz : Nat} {v : Value} {rest : List (Nat × Value)} (hp : place i = some (off, sz)) (h1 : v.cells.size = sz) (h2 : off + sz ≤ cells.size) :
    Instr.fill place cells ((i, v) :: rest) = Instr.fill place (lay cells.toList off v.cells.toList).toArray rest := by
  have hf : (v.cells.zipIdx.foldl (fun cs (p : Value × Nat) => cs.setIfInBounds (off + p.2) p.1) cells) = (lay cells.toList off v.cells.toList).toArray := by
    apply Array.ext'
    have hl : v.cells.toList.length = v.cells.size := Array.length_toList
    have := lay_foldl v.cells.toList cells off 0 (by omega)
    rw [← Array.foldl_toList, Array.toList_zipIdx]
    exact this
  simp only [Instr.fill, hp]
  rw [if_neg (by simp only [ne_eq, Bool.or_eq_true, decide_eq_true_eq]; omega)]
  rw [← hf]
def eC : E → Option C
  | .d x => some (.d x)
  | .own e k rows t => some (.own e k rows t)
  | _ => none
theorem eC_ok {B : Nat} {g : Gh} {w : World} {y : E} {c : C} {v : Value} (h : eC y = some c) (hv : RE B g w y v) : RC B g w c v := by
  unfold eC at h
  split at h
  · injection h with h; subst h; exact hv
  · injection h with h; subst h; exact hv
  · cases h
theorem RC.one {B : Nat} {g : Gh} {w : World} {y : C} {v : Value} (h : RC B g w y v) : v.oneCell' = true := by
  cases y with
  | d x => exact Rep.one h
  | own e k rows t => exact (OwnR.rep h).one
theorem one_cells {v : Value} (h : v.oneCell' = true) : v.cells = #[v] := by cases v <;> first | rfl | (simp [Value.oneCell'] at h)
/-- the cells of a part, however they come. -/
def cellsE : E → Option (List C)
  | .ag xs => some xs
  | y => (eC y).map fun c => [c]
theorem RCs.one {B : Nat} {g : Gh} {w : World} {ys : List C} {us : List Value} (h : RCs B g w ys us) : ∀ u ∈ us, u.oneCell' = true := by
  intro u hu
  obtain ⟨j, hj, rfl⟩ := List.getElem_of_mem hu
  exact (h.2 j (ys[j]'(by rw [← h.1]; exact hj)) us[j] (by rw [List.getElem?_eq_getElem]) (by rw [List.getElem?_eq_getElem])).one
theorem cellsE_ok {B : Nat} {g : Gh} {w : World} {y : E} {cs : List C} {v : Value} (h : cellsE y = some cs) (hv : RE B g w y v) : RCs B g w cs v.cells.toList := by
  have key : ∀ c, eC y = some c → RCs B g w [c] v.cells.toList := by
    intro c hc
    have hr := eC_ok hc hv
    rw [one_cells hr.one]
    refine ⟨rfl, fun j z u a b => ?_⟩
    cases j with
    | zero => simp at a b; subst a b; exact hr
    | succ j => simp at a
  unfold cellsE at h
  split at h
  · injection h with h; subst h
    obtain ⟨us, rfl, hus⟩ := hv
    exact hus
  · cases hc : eC y with
    | none => rw [hc] at h; cases h
    | some c => rw [hc] at h; injection h with h; subst h; exact key c hc
/-- a struct by value. -/
def aFill (σ : St) (fs : List (Nat × Nat × Bool)) : List C → List (Nat × Operand) → Option (Prop × List C)
  | cells, [] => some (True, cells)
  | cells, (i, x) :: rest => match fs[i]?, cellsE (bodyT (ev σ x)) with
    | some (off, sz, _), some xs => match aFill σ fs (lay cells off xs) rest with
      | some (ob, r) => some (oblT (ev σ x) ∧ xs.length = sz ∧ off + sz ≤ cells.length ∧ ob, r)
      | none => none
    | _, _ => none
theorem RCs.layOn {B : Nat} {g : Gh} {w : World} {ys xs : List C} {us vs : List Value} (h : RCs B g w ys us) (k : RCs B g w xs vs) (off : Nat) (hl : off + xs.length ≤ ys.length) : RCs B g w (lay ys off xs) (lay us off vs) := by
  have h1 := h.1
  have k1 := k.1
  refine ⟨by unfold lay; simp [h1, k1], fun j y u hy hu => ?_⟩
  unfold lay at hy hu
  have t1 : (ys.take off).length = off := by rw [List.length_take]; omega
  have t2 : (us.take off).length = off := by rw [List.length_take]; omega
  rcases Nat.lt_or_ge j off with q | q
  · rw [List.append_assoc, List.getElem?_append_left (by omega), List.getElem?_take_of_lt q] at hy hu
    exact h.2 j y u hy hu
  · rw [List.append_assoc, List.getElem?_append_right (by omega)] at hy hu
    rw [t1] at hy
    rw [t2] at hu
    rcases Nat.lt_or_ge (j - off) xs.length with r | r
    · rw [List.getElem?_append_left (by omega)] at hy hu
      exact k.2 _ y u hy hu
    · rw [List.getElem?_append_right (by omega), List.getElem?_drop] at hy hu
      rw [k1] at hu
      exact h.2 _ y u hy hu
theorem aFill_ok {x : Cx} {g : Gh} {σ : St} {a : Act} {w : World} (hr : Rel x g σ a w) {fs : List (Nat × Nat × Bool)} {place : Nat → Option (Nat × Nat)} (hpl : ∀ i off sz ag, fs[i]? = some (off, sz, ag) → place i = some (off, sz)) :
    ∀ (parts : List (Nat × Operand)) (cells : List C) (cs : Array Value) (ob : Prop) (r : List C), aFill σ fs cells parts = some (ob, r) → ob → RCs x.B g w cells cs.toList →
      ∃ cs', Instr.fill place cs (parts.map fun p => (p.1, a.eval p.2)) = some cs' ∧ RCs x.B g w r cs'.toList
  | [], cells, cs, ob, r, h, ho, hc => by
    injection h with h; injection h with e1 e2
    subst e2
    exact ⟨cs, rfl, hc⟩
  | (i, y) :: rest, cells, cs, ob, r, h, ho, hc => by
    unfold aFill at h
    split at h
    · rename_i off sz ag xs hf hx
      split at h
      · rename_i ob' r' h'
        injection h with h; injection h with e1 e2
        subst e1 e2
        obtain ⟨o1, o2, o3, o4⟩ := ho
        have hb := cellsE_ok hx (body_ok (ev_ok hr y) o1)
        have hl : cs.size = cells.length := by have := hc.1; rwa [Array.length_toList] at this
        have hvl : (a.eval y).cells.size = xs.length := by have := hb.1; rwa [Array.length_toList] at this
        have hlay := hc.layOn hb off (by omega)
        obtain ⟨cs', r1, r2⟩ := aFill_ok hr hpl rest _ (lay cs.toList off (a.eval y).cells.toList).toArray ob' r' h' o4 (by simpa using hlay)
        refine ⟨cs', ?_, r2⟩
        rw [List.map_cons, fill_step (v := a.eval y) (hpl i off sz ag hf) (by omega) (by omega)]
        exact r1
      · cases h
    · cases h
theorem RCs.ofD {B : Nat} {g : Gh} {w : World} {ds : List D} {us : List Value} (h : RepL g.S w ds us) : RCs B g w (ds.map .d) us := by
  refine ⟨by simp [h.1], fun j y u hy hu => ?_⟩
  rw [List.getElem?_map] at hy
  cases hj : ds[j]? with
  | none => rw [hj] at hy; cases hy
  | some d => rw [hj] at hy; injection hy with hy; subst hy; exact h.2 j d u hj hu
theorem dv_repL (S : Seal) (w : World) (us : List Value) (h : ∀ u ∈ us, u.oneCell' = true) : RepL S w (us.map dv) us := by
  refine ⟨by simp, fun j d u hd hu => ?_⟩
  rw [List.getElem?_map, hu] at hd
  injection hd with hd
  subst hd
  exact dv_rep _ _ _ (h u (List.mem_of_getElem? hu))
def aBuild (P : Program) (σ : St) (t : TypeId) (parts : Array (Nat × Operand)) : Option (Prop × E) := match tk P t with
  | .st _ fs z => match aFill σ fs (z.map .d) parts.toList with
    | some (ob, r) => some (ob, .ag r)
    | none => none
  | _ => none
theorem aBuild_ok {x : Cx} {g : Gh} {σ : St} {a : Act} {w : World} (hr : Rel x g σ a w) {t : TypeId} {parts : Array (Nat × Operand)} {ob : Prop} {y : E} (h : aBuild x.P σ t parts = some (ob, y)) (ho : ob) :
    ∃ r, (Instr.build t (parts.map fun (i, x) => (i, a.eval x))).run x.P w = .ok r w ∧ RE x.B g w y r := by
  unfold aBuild at h
  split at h
  · rename_i n fs z hk
    obtain ⟨fields, i, zv, a1, a2, a3, a4, a5, a6, a7, a8, a9⟩ := tk_st hk
    split at h
    · rename_i ob' r h'
      injection h with h; injection h with e1 e2
      subst e1 e2
      have hz : RCs x.B g w (z.map .d) zv.toList := by rw [a7]; exact RCs.ofD (dv_repL _ _ _ a6)
      have hm : fields.toList.mapM (fun f => (x.P.info? f.type).map fun i => (f.offset, i.size)) = some (fields.toList.map fun f => (f.offset, szT x.P f.type)) := by
        have key : ∀ l : List Field, (∀ f ∈ l, szT x.P f.type ≠ 0) → l.mapM (fun f => (x.P.info? f.type).map fun i => (f.offset, i.size)) = some (l.map fun f => (f.offset, szT x.P f.type)) := by
          intro l
          induction l with
          | nil => intro _; rfl
          | cons f l ih =>
            intro hl
            have hf := hl f (by simp)
            have hs : (x.P.info? f.type).map (fun i => (f.offset, i.size)) = some (f.offset, szT x.P f.type) := by
              unfold szT at hf ⊢
              cases hi : x.P.info? f.type with
              | none => rw [hi] at hf; exact absurd rfl hf
              | some i => rfl
            rw [List.mapM_cons, hs, ih (fun y hy => hl y (by simp [hy]))]; rfl
        exact key _ (fun f hf => (a9 f hf).1)
      obtain ⟨cs', r1, r2⟩ := aFill_ok hr (place := fun i => (fields.toList.map fun f => (f.offset, szT x.P f.type)).toArray[i]?) (fun i off sz ag hi => by
        rw [a8, List.getElem?_map] at hi
        rw [List.getElem?_toArray, List.getElem?_map]
        cases hj : fields.toList[i]? with
        | none => rw [hj] at hi; cases hi
        | some f =>
          rw [hj] at hi
          injection hi with hi
          injection hi with h1 h2
          injection h2 with h2 h3
          rw [← h1, ← h2]; rfl) parts.toList (z.map .d) zv ob' r h' ho hz
      refine ⟨.agg cs', run_build w t _ cs' ?_, cs'.toList, rfl, r2⟩
      unfold Program.built
      simp only [a2, a1, a4, hm, Value.cells]
      rw [← r1]
      congr 1
      simp
    · cases h
  · cases h
end Go.Proofs.Ytokjkmibnjfkaaa
