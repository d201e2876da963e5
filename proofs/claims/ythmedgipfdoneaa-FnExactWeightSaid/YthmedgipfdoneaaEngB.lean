import Derived.Test.YthmedgipfdoneaaEngA
import Derived.Deep.LoopGhost
import Derived.Test.YthmedgipfdoneaaProg
/- The engine, ninth part: operations that make or change memory, under one name. -/
namespace Go.Proofs.Ythmedgipfdoneaa
set_option linter.unusedVariables false
set_option linter.unusedSimpArgs false
open Go.RowKit
/-- rows of a literal slice. -/
def aRows (σ : St) (k : Nat) : Nat → List (Nat × Operand) → Option (Prop × List (List D))
  | _, [] => some (True, [])
  | j, (i, x) :: rest => match cellsE (bodyT (ev σ x)) with
    | some xs => match aRows σ k (j + 1) rest with
      | some (ob, rs) => some (oblT (ev σ x) ∧ i = j ∧ xs.length = k ∧ ob, xs.map cD :: rs)
      | none => none
    | none => none
theorem aRows_ok {x : Cx} {g : Gh} {σ : St} {a : Act} {w : World} (hr : Rel x g σ a w) {k : Nat} :
    ∀ (parts : List (Nat × Operand)) (j : Nat) (ob : Prop) (rs : List (List D)), aRows σ k j parts = some (ob, rs) → ob → ∀ (cs : Array Value), cs.size = (j + parts.length) * k →
      ∃ cs' vals, Instr.fill (fun i => some (i * k, k)) cs (parts.map fun p => (p.1, a.eval p.2)) = some cs' ∧ cs'.toList = cs.toList.take (j * k) ++ vals ∧ RepRows g.S w k rs vals ∧ rs.length = parts.length
  | [], j, ob, rs, h, ho, cs, hcs => by
    injection h with h; injection h with e1 e2
    subst e2
    exact ⟨cs, [], rfl, by rw [List.append_nil, List.take_of_length_le (by rw [Array.length_toList, hcs]; simp)], ⟨by simp, by simp, by simp, by simp⟩, rfl⟩
  | (i, y) :: rest, j, ob, rs, h, ho, cs, hcs => by
    unfold aRows at h
    split at h
    · rename_i xs hx
      split at h
      · rename_i ob' rs' h'
        injection h with h; injection h with e1 e2
        subst e1 e2
        obtain ⟨o1, rfl, o3, o4⟩ := ho
        have hb := cellsE_ok hx (body_ok (ev_ok hr y) o1)
        have hvl : (a.eval y).cells.toList.length = k := by rw [hb.1, o3]
        have hvl' : (a.eval y).cells.size = k := by rw [← Array.length_toList]; exact hvl
        simp only [List.length_cons] at hcs
        have hle : i * k + k ≤ cs.size := by
          rw [hcs, show i * k + k = (i + 1) * k by rw [Nat.add_mul, Nat.one_mul]]; exact Nat.mul_le_mul_right _ (by omega)
        have hll : (lay cs.toList (i * k) (a.eval y).cells.toList).length = cs.size := by
          unfold lay
          simp only [List.length_append, List.length_take, List.length_drop, Array.length_toList, hvl']
          omega
        obtain ⟨cs', vals, r1, r2, r3, r4⟩ := aRows_ok hr rest (i + 1) ob' rs' h' o4 (lay cs.toList (i * k) (a.eval y).cells.toList).toArray (by rw [List.size_toArray, hll, hcs]; congr 1; omega)
        refine ⟨cs', (a.eval y).cells.toList ++ vals, ?_, ?_, ?_, by simp [r4]⟩
        · rw [List.map_cons, fill_step (v := a.eval y) rfl hvl' hle]
          exact r1
        · rw [r2]
          unfold lay
          have t1 : (cs.toList.take (i * k)).length = i * k := by rw [List.length_take, Array.length_toList]; omega
          have t2 : (cs.toList.take (i * k) ++ (a.eval y).cells.toList).length = (i + 1) * k := by rw [List.length_append, t1, hvl, Nat.add_mul, Nat.one_mul]
          rw [← t2]
          simp only [List.toList_toArray]
          rw [List.take_left, List.append_assoc]
        · have hone : RepRows g.S w k [xs.map cD] (a.eval y).cells.toList := by
            refine ⟨by simp [hvl'], fun q row hq => ?_, hb.one, fun q l row d hq hl => ?_⟩
            · cases q with
              | zero => simp at hq; subst hq; simp [o3]
              | succ q => simp at hq
            · cases q with
              | zero =>
                simp at hq
                subst hq
                rw [List.getElem?_map] at hl
                cases hc : xs[l]? with
                | none => rw [hc] at hl; cases hl
                | some c =>
                  rw [hc] at hl
                  injection hl with hl
                  subst hl
                  have hlt : l < (a.eval y).cells.toList.length := by rw [hb.1]; exact (List.getElem?_eq_some_iff.1 hc).1
                  refine ⟨_, by rw [Nat.zero_mul, Nat.zero_add]; exact List.getElem?_eq_getElem hlt, cD_ok (hb.2 l c _ hc (List.getElem?_eq_getElem hlt))⟩
              | succ q => simp at hq
          exact hone.append r3
      · cases h
    · cases h
/-- rows of what is appended. -/
def rowsK (k : Nat) : E → Option (Prop × List (List D))
  | .d .nil => some (True, [])
  | .d (.sl k' rows) => some (k' = k, rows)
  | .own _ k' rows _ => some (k' = k, rows)
  | _ => none
theorem rowsK_ok {k : Nat} {x : E} {ob : Prop} {rows : List (List D)} (h : rowsK k x = some (ob, rows)) (ho : ob) {B : Nat} {g : Gh} {w : World} {u : Value} (hu : RE B g w x u) : Rep g.S w (.sl k rows) u := by
  unfold rowsK at h
  split at h
  · injection h with h; injection h with e1 e2
    subst e2
    cases hu
    exact .sl0 (by decide)
  · injection h with h; injection h with e1 e2
    subst e1 e2
    obtain rfl := ho
    exact hu
  · injection h with h; injection h with e1 e2
    subst e1 e2
    obtain rfl := ho
    exact OwnR.rep hu
  · cases h
theorem RCs.appOn {B : Nat} {g : Gh} {w : World} {xs ys : List C} {us vs : List Value} (h : RCs B g w xs us) (k : RCs B g w ys vs) : RCs B g w (xs ++ ys) (us ++ vs) := by
  refine ⟨by simp [h.1, k.1], fun j d u a b => ?_⟩
  rcases Nat.lt_or_ge j xs.length with hj | hj
  · rw [List.getElem?_append_left hj] at a; rw [List.getElem?_append_left (by rw [h.1]; exact hj)] at b; exact h.2 j d u a b
  · rw [List.getElem?_append_right hj] at a; rw [List.getElem?_append_right (by rw [h.1]; exact hj), h.1] at b; exact k.2 _ d u a b
theorem made_flat (z : Array Value) (k n : Nat) (hz : z.size = k) (hk : 0 < k) : (madeCells z (n * k)).toList = (List.replicate n z.toList).flatten := by
  have key : ∀ n : Nat, (List.range (n * k)).map (fun j => (z[j % k]!)) = (List.replicate n z.toList).flatten := by
    intro n
    induction n with
    | zero => simp
    | succ n ih =>
      rw [List.replicate_succ', List.flatten_append, ← ih, Nat.add_mul, Nat.one_mul, List.range_add, List.map_append]
      congr 1
      rw [List.map_map]
      simp only [List.flatten_cons, List.flatten_nil, List.append_nil]
      apply List.ext_getElem
      · simp [hz]
      · intro i h1 h2
        simp only [List.getElem_map, List.getElem_range, Function.comp_apply]
        have hi : i < k := by simpa using h1
        rw [Nat.add_comm, Nat.add_mul_mod_self_right, Nat.mod_eq_of_lt hi, getElem!_pos z i (by omega)]
        simp
  rw [← key]
  simp [madeCells, hz]
/-- an operation that makes or changes memory: what is asked, what it yields, the frame behind. -/
def aop2 (P : Program) (σ : St) (dst : Option Tmp) : Op → Option (Prop × T × St)
  | .alloc t => match dst, ck P t with
    | some d, some (_, _, z) => some (True, .e (.bx d 0), (σ.sc pAll (pNot d)).setB d (z.map .d))
    | _, _ => none
  | .box t x => match dst, cellsE (bodyT (ev σ x)) with
    | some d, some row => some (oblT (ev σ x), .e (.bx d 0), (σ.sc pAll (pNot d)).setB d row)
    | _, _ => none
  | .store t p v => match dst, bodyT (ev σ p), cellsE (bodyT (ev σ v)), ck P t with
    | none, .bx id off, some xs, some (_, n, _) => match σ.b id with
      | some row => some (oblT (ev σ p) ∧ oblT (ev σ v) ∧ xs.length = n ∧ off + xs.length ≤ row.length, .e .un, σ.setB id (lay row off xs))
      | none => none
    | _, _, _, _ => none
  | .build t parts => match aBuild P σ t parts with
    | some (ob, y) => some (ob, .e y, σ)
    | none => none
  | .makeSlice t l c => match dst, tk P t, intE (bodyT (ev σ l)), intE (bodyT (ev σ c)) with
    | some d, .sl _ k by_ z, some (_, n), some (_, m) => some (oblT (ev σ l) ∧ oblT (ev σ c) ∧ m = n ∧ 0 ≤ n ∧ by_ * n ≤ 281474976710656 ∧ n ≤ 281474976710656,
        .e (.bs d k n.toNat), (σ.sc pAll (pNot d)).setB d (List.replicate n.toNat (z.map C.d)).flatten)
    | _, _, _, _ => none
  | .buildSlice t len parts => match dst, tk P t with
    | some d, .sl e k _ _ => match aRows σ k 0 parts.toList with
      | some (ob, rows) => some (ob ∧ parts.toList.length = len ∧ len * k ≤ 16777216, .e (.own e k rows d), σ.sc (pNot d) pAll)
      | none => none
    | _, _ => none
  | .call ⟨.builtin .append, args, ts⟩ => match dst, args.toList, ts.toList with
    | some d, [s, x], [t, t'] => match tk P t, bodyT (ev σ s) with
      | .sl e k by_ _, .own e' k' rows tok => match rowsK k (bodyT (ev σ x)) with
        | some (ob, rows') => some (t' = t ∧ oblT (ev σ s) ∧ oblT (ev σ x) ∧ e' = e ∧ k' = k ∧ ob ∧ (rows.length + rows'.length) * by_ ≤ 140737488355328 ∧ rows.length + rows'.length ≤ 140737488355328,
            .e (.own e k (rows ++ rows') tok), σ.sc (pNot tok) pAll)
        | none => none
      | .sl e k by_ _, .d .nil => match rowsK k (bodyT (ev σ x)) with
        | some (ob, rows') => some (t' = t ∧ oblT (ev σ s) ∧ oblT (ev σ x) ∧ ob ∧ rows'.length * by_ ≤ 140737488355328 ∧ rows'.length ≤ 140737488355328,
            .e (.own e k rows' d), σ.sc (pNot d) pAll)
        | none => none
      | _, _ => none
    | _, _, _ => none
  | _ => none
theorem sc_sc (p q p' q' : Nat → Bool) (σ : St) (h1 : ∀ i, p i = true → p' i = true) (h2 : ∀ i, q i = true → q' i = true) (h3 : p' = p) (h4 : q' = q) : (σ.sc p q).sc p' q' = σ.sc p q := by
  subst h3 h4
  have hc : ∀ y, scC p' (scC p' y) = scC p' y := by
    intro y; cases y with
    | d x => rfl
    | own e k rows t => by_cases hp : p' t = true <;> simp [scC, hp]
  have hcm : ∀ l : List C, (l.map (scC p')).map (scC p') = l.map (scC p') := by
    intro l; rw [List.map_map]; congr 1; funext y; exact hc y
  have he : ∀ y, scE p' q' (scE p' q' y) = scE p' q' y := by
    intro y; cases y with
    | d x => rfl
    | own e k rows t => by_cases hp : p' t = true <;> simp [scE, hp]
    | bx i o => by_cases hp : q' i = true <;> simp [scE, hp]
    | bs i k n => by_cases hp : q' i = true <;> simp [scE, hp]
    | ag xs => simp only [scE, hcm]
    | un => rfl
  have ht : ∀ y, scT p' q' (scT p' q' y) = scT p' q' y := by
    intro y; cases y with
    | e x => simp only [scT, he]
    | tup xs => simp only [scT, List.map_map]; congr 2; funext y; exact he y
    | mb c x => simp only [scT, he]
  unfold St.sc
  congr 1
  · funext i; exact ht _
  · funext i
    by_cases hq : q' i = true
    · simp only [hq, if_true]
      cases σ.b i with
      | none => rfl
      | some row => simp only [Option.map_some, hcm]
    · simp only [hq, if_false, Bool.false_eq_true]
/-- a literal slice is laid. -/
theorem lit_run {x : Cx} {g : Gh} {σ : St} {a : Act} {w : World} (hr : Rel x g σ a w) {t e k by_ len : Nat} {z : List D} (hk : tk x.P t = .sl e k by_ z) {o : Oper} {parts : Array (Nat × Operand)} (hop : o.op = .buildSlice t len parts) {ob' : Prop} {rows : List (List D)} (h' : aRows σ k 0 parts.toList = some (ob', rows)) (o1 : ob') (o2 : parts.toList.length = len) (o3 : len * k ≤ 16777216) :
    ∃ vals, RepRows g.S w k rows vals ∧ rows.length ≤ maxLen ∧ (execOp a.eval o).run x.P w = .ok (.value (.slice (some ⟨w.heap.size, 0, none⟩) rows.length rows.length)) (w.alloc (.cells vals.toArray e)) := by
  obtain ⟨hu1, i, zv, q1, q2, q3, q4, q5, q6, q7, q8, -⟩ := tk_sl hk
  obtain ⟨cs', vals, r1, r2, r3, r4⟩ := aRows_ok hr parts.toList 0 ob' rows h' o1 ((Array.range (len * k)).map (zv.cells[· % zv.cells.size]!)) (by rw [o2]; simp)
  rw [Nat.zero_mul, List.take_zero, List.nil_append] at r2
  refine ⟨vals, r3, by rw [r4, o2]; unfold maxLen; have := Nat.le_mul_of_pos_right len q6; omega, ?_⟩
  have hcs : cs' = vals.toArray := Array.ext' (by rw [r2])
  subst hcs
  have hlen : rows.length = len := by rw [r4, o2]
  have r1' : Instr.fill (fun i => some (i * k, k)) ((Array.range (len * k)).map (zv.cells[· % zv.cells.size]!)) (parts.map fun (i, x) => (i, a.eval x)).toList = some vals.toArray := by rw [← r1]; simp
  simp only [execOp, hop, Instr.buildSlice, Sem.run_bind, run_underlying hu1, Result.andThen_ok, tk_slice_len hk]
  rw [if_neg (by omega)]
  by_cases hz : len * k = 0
  · have hl0 : len = 0 := by
      rcases Nat.mul_eq_zero.1 hz with q | q
      · exact q
      · omega
    subst hl0
    have hp0 : parts.toList = [] := List.eq_nil_of_length_eq_zero o2
    have hp0' : parts = #[] := Array.ext' hp0
    subst hp0'
    have hv0 : vals = [] := List.eq_nil_of_length_eq_zero (by rw [r3.1, hlen]; simp)
    subst hv0
    simp [Instr.fill, newRow, hlen, go_sem]
  · rw [if_neg hz]
    have hzv : (zeroValue e).run x.P w = .ok zv w := by simp [zeroValue, typeInfo, q1, q2]
    simp only [Sem.run_bind, hzv, Sem.run_pure, Result.andThen_ok, r1']
    simp [newRow, hlen]
theorem aop2_ok {x : Cx} {σ σ' : St} {o : Oper} {ob : Prop} {y : T} (h : aop2 x.P σ o.dst o.op = some (ob, y, σ')) (ho : ob) {g : Gh} {a : Act} {w : World} (hr : Rel x g σ a w) :
    ∃ w' g', Rel x g' σ' a w' ∧ ((∃ r, (execOp a.eval o).run x.P w = .ok (.value r) w' ∧ RT x.B g' w' y r) ∨ ((execOp a.eval o).run x.P w = .ok .skip w' ∧ y = .e .un)) := by
  have hev := ev_ok hr
  have hb : ∀ z, oblT (ev σ z) → RE x.B g w (bodyT (ev σ z)) (a.eval z) := fun z hz => body_ok (hev z) hz
  unfold aop2 at h
  split at h
  · rename_i t hop
    split at h
    · rename_i d ag n z hd hk
      injection h with h; injection h with e1 e2; injection e2 with e2 e3
      subst e2 e3
      obtain ⟨-, ⟨i, zv, h1, h2, h3, h4, h5, h6⟩, -⟩ := ck_spec hk
      subst h6
      have hbx := hr.newBox d ((zv.cells.toList.map dv).map .d) zv.cells.toList t (RCs.ofD (dv_repL _ _ _ h5)) h5
      refine ⟨_, _, hbx, .inl ⟨.pointer (some ⟨w.heap.size, 0, none⟩), ?_, ?_⟩⟩
      · simp [execOp, hop, Instr.alloc, zeroValue, typeInfo, h1, h3, newVar, newRow]
      · show _ = Value.pointer (some ⟨if d = d then w.heap.size else g.β d, 0, none⟩)
        rw [if_pos rfl]
    · cases h
  · rename_i t z hop
    split at h
    · rename_i d row hd hc
      injection h with h; injection h with e1 e2; injection e2 with e2 e3
      subst e1 e2 e3
      have hrow := cellsE_ok hc (hb z ho)
      have hbx := hr.newBox d row (a.eval z).cells.toList t hrow hrow.one
      refine ⟨_, _, hbx, .inl ⟨.pointer (some ⟨w.heap.size, 0, none⟩), ?_, ?_⟩⟩
      · simp [execOp, hop, Instr.box, newVar, newRow]
      · show _ = Value.pointer (some ⟨if d = d then w.heap.size else g.β d, 0, none⟩)
        rw [if_pos rfl]
    · cases h
  · rename_i t p v hop
    split at h
    · rename_i id off xs ag n z hd hp hv hk
      split at h
      · rename_i row hrow
        injection h with h; injection h with e1 e2; injection e2 with e2 e3
        subst e1 e2 e3
        obtain ⟨o1, o2, o3, o4⟩ := ho
        have hp' := hb p o1
        rw [hp] at hp'
        have hp' : a.eval p = .pointer (some ⟨g.β id, off, none⟩) := hp'
        have hxs := cellsE_ok hv (hb v o2)
        obtain ⟨w', s1, s2⟩ := hr.store id off row xs hrow _ hxs hxs.one o4
        refine ⟨w', g, s2, .inr ⟨?_, rfl⟩⟩
        have hsz : (a.eval v).cells.size = n := by have := hxs.1; rw [Array.length_toList] at this; omega
        simp only [execOp, hop, Instr.storeAt, hp', Instr.sureAddr, Sem.run_bind, Sem.run_pure, Result.andThen_ok, storeVar, ck_size hk]
        rw [if_neg (by simp [hsz])]
        rw [s1]; rfl
      · cases h
    · cases h
  · rename_i t parts hop
    split at h
    · rename_i ob' y' h'
      injection h with h; injection h with e1 e2; injection e2 with e2 e3
      subst e1 e2 e3
      obtain ⟨r, r1, r2⟩ := aBuild_ok hr h' ho
      refine ⟨w, g, hr, .inl ⟨r, ?_, r2⟩⟩
      simp only [execOp, hop, Sem.run_bind, r1]; rfl
    · cases h
  · rename_i t l c hop
    split at h
    · rename_i d e k by_ z kl n kc m hd hk hl hc
      injection h with h; injection h with e1 e2; injection e2 with e2 e3
      subst e1 e2 e3
      obtain ⟨o1, o2, rfl, o4, o5, o6⟩ := ho
      obtain ⟨hu1, i, zv, q1, q2, q3, q4, q5, q6, q7, q8, -⟩ := tk_sl hk
      have el := intE_ok hl (hb l o1)
      have ec := intE_ok hc (hb c o2)
      have hrun := run_make (P := x.P) w t e i zv hu1 q1 q2 kl kc m m o4 (Int.le_refl _) (by rw [q4]; exact o5) (by omega)
      have hmc : (madeCells zv.cells (m.toNat * i.size)).toList = (List.replicate m.toNat zv.cells.toList).flatten := by
        rw [q3]; exact made_flat zv.cells k m.toNat q5 q6
      have hrow : RCs x.B g w (List.replicate m.toNat (z.map C.d)).flatten (madeCells zv.cells (m.toNat * i.size)).toList := by
        rw [hmc, q8]
        generalize m.toNat = N
        induction N with
        | zero => exact ⟨rfl, fun j y u q => by simp at q⟩
        | succ N ih =>
          rw [List.replicate_succ, List.replicate_succ, List.flatten_cons, List.flatten_cons]
          exact RCs.appOn (RCs.ofD (dv_repL _ _ _ q7)) ih
      have hbx := hr.newBox d _ _ e hrow hrow.one
      refine ⟨_, _, hbx, .inl ⟨.slice (some ⟨w.heap.size, 0, none⟩) m.toNat m.toNat, ?_, ?_⟩⟩
      · simp only [execOp, hop, el, ec, Sem.run_bind, hrun, Result.andThen_ok, Sem.run_pure]
      · refine ⟨?_, by unfold maxLen; omega⟩
        show _ = Value.slice (some ⟨if d = d then w.heap.size else g.β d, 0, none⟩) _ _
        rw [if_pos rfl]
    · cases h
  · rename_i t len parts hop
    split at h
    · rename_i d e k by_ z hd hk
      split at h
      · rename_i ob' rows h'
        injection h with h; injection h with e1 e2; injection e2 with e2 e3
        subst e1 e2 e3
        obtain ⟨o1, o2, o3⟩ := ho
        obtain ⟨vals, r3, r4, r5⟩ := lit_run hr hk hop h' o1 o2 o3
        obtain ⟨g', l1, l2, -⟩ := hr.lit d e k rows vals r3 r4
        exact ⟨_, g', l1, .inl ⟨_, r5, l2⟩⟩
      · cases h
    · cases h
  · rename_i args ts hop
    split at h
    · rename_i d s z t t' hd ha ht
      have ea : args = #[s, z] := Array.ext' ha
      have et : ts = #[t, t'] := Array.ext' ht
      subst ea et
      split at h
      · rename_i e k by_ zz e' k' rows tok hk hs
        split at h
        · rename_i ob' rows' hx
          injection h with h; injection h with e1 e2; injection e2 with e2 e3
          subst e1 e2 e3
          obtain ⟨rfl, o1, o2, rfl, rfl, o3, o4, o5⟩ := ho
          have hs' := hb s o1
          rw [hs] at hs'
          obtain ⟨v', w', g', r1, r2, r3⟩ := hr.append (ty := o.type) hk hs' (rowsK_ok hx o3 (hb z o2)) o4 (by unfold maxLen; omega)
          refine ⟨w', g', r2, .inl ⟨v', ?_, r3⟩⟩
          simp only [execOp, hop, resolve, invoke, builtin, Sem.run_bind, Sem.run_pure, Result.andThen_ok, List.map_toArray, List.map_cons, List.map_nil]
          rw [r1]; rfl
        · cases h
      · rename_i e k by_ zz hk hs
        split at h
        · rename_i ob' rows' hx
          injection h with h; injection h with e1 e2; injection e2 with e2 e3
          subst e1 e2 e3
          obtain ⟨rfl, o1, o2, o3, o4, o5⟩ := ho
          have hs' := hb s o1
          rw [hs] at hs'
          have hs' : a.eval s = .slice none 0 0 := by
            have : Rep g.S w .nil (a.eval s) := hs'
            generalize a.eval s = v at this
            cases this; rfl
          obtain ⟨g1, n1, n2, n3⟩ := hr.nilTok d e k
          obtain ⟨v', w', g', r1, r2, r3⟩ := n2.append (ty := o.type) hk n3 ((rowsK_ok hx o3 (hb z o2)).mono n1) (by simpa using o4) (by unfold maxLen; simp; omega)
          rw [sc_sc _ _ _ _ _ (fun _ h => h) (fun _ h => h) rfl rfl] at r2
          refine ⟨w', g', r2, .inl ⟨v', ?_, r3⟩⟩
          simp only [execOp, hop, resolve, invoke, builtin, Sem.run_bind, Sem.run_pure, Result.andThen_ok, List.map_toArray, List.map_cons, List.map_nil, hs']
          rw [r1]; rfl
        · cases h
      · cases h
    · cases h
  · cases h
end Go.Proofs.Ythmedgipfdoneaa

/- The engine, tenth part: calls, contracts, and a region's operations in the order of the text. -/
namespace Go.Proofs.Ythmedgipfdoneaa
set_option linter.unusedVariables false
set_option linter.unusedSimpArgs false
open Go.RowKit
/-- an argument. -/
inductive A where
  | d (x : D)
  | ag (xs : List D)
def RA (S : Seal) (w : World) : A → Value → Prop
  | .d x, v => Rep S w x v
  | .ag xs, v => ∃ us : List Value, v = .agg us.toArray ∧ RepL S w xs us
def argE : E → Option A
  | .d x => some (.d x)
  | .own _ k rows _ => some (.d (.sl k rows))
  | .ag xs => some (.ag (xs.map cD))
  | _ => none
theorem RCs.toD {B : Nat} {g : Gh} {w : World} {ys : List C} {us : List Value} (h : RCs B g w ys us) : RepL g.S w (ys.map cD) us := by
  refine ⟨by simp [h.1], fun j d u hd hu => ?_⟩
  rw [List.getElem?_map] at hd
  cases hy : ys[j]? with
  | none => rw [hy] at hd; cases hd
  | some c => rw [hy] at hd; injection hd with hd; subst hd; exact cD_ok (h.2 j c u hy hu)
theorem argE_ok {y : E} {b : A} (h : argE y = some b) {B : Nat} {g : Gh} {w : World} {v : Value} (hv : RE B g w y v) : RA g.S w b v := by
  unfold argE at h
  split at h
  · injection h with h; subst h; exact hv
  · injection h with h; subst h; exact OwnR.rep hv
  · injection h with h; subst h
    obtain ⟨us, rfl, hus⟩ := hv
    exact ⟨us, rfl, hus.toD⟩
  · cases h
/-- what a function does of which nothing but the answer is seen: arguments as data, what holds of the answer. -/
structure FCon (P : Program) (f : FuncId) (args : List A) (Rs : T → Prop) : Prop where
  ent : ∀ vs w, (callFunc f vs).run P w = .ok (.enter f vs) w
  run : ∀ (w : World) (S : Seal) (vs : List Value), (∀ b o, S b o → b < w.heap.size) → vs.length = args.length → (∀ (j : Nat) (b : A) (u : Value), args[j]? = some b → vs[j]? = some u → RA S w b u) →
    Calls P f vs.toArray w (fun e w' => ∃ v g' r, e = .returned v ∧ Below w.heap.size w w' ∧ (∀ b o, b < w.heap.size → (Gh.S g' b o ↔ S b o)) ∧ (∀ b o, g'.S b o → b < w'.heap.size) ∧
      (∀ i j b, g'.τ i = some b → g'.τ j = some b → i = j) ∧ (∀ i b, g'.τ i = some b → w.heap.size ≤ b ∧ b < w'.heap.size) ∧ Rs r ∧ RT w.heap.size g' w' r v)
theorem FCon.mono {P : Program} {f : FuncId} {args : List A} {Rs Rs' : T → Prop} (h : FCon P f args Rs) (hr : ∀ r, Rs r → Rs' r) : FCon P f args Rs' := by
  refine ⟨h.ent, fun w S vs h1 h2 h3 => (h.run w S vs h1 h2 h3).mono ?_⟩
  rintro e w' ⟨v, g', r, a1, a2, a3, a4, a5, a6, a7, a8⟩
  exact ⟨v, g', r, a1, a2, a3, a4, a5, a6, hr r a7, a8⟩
/-- the answer's own slices get names of the call's place. -/
def rnC (d : Nat) : C → C
  | .d x => .d x
  | .own e k rows t => .own e k rows (1000 * (t + 1) + d)
def rnE (d : Nat) : E → E
  | .d x => .d x
  | .own e k rows t => .own e k rows (1000 * (t + 1) + d)
  | .bx _ _ => .un
  | .bs _ _ _ => .un
  | .ag xs => .ag (xs.map (rnC d))
  | .un => .un
def rnT (d : Nat) : T → T
  | .e x => .e (rnE d x)
  | .tup xs => .tup (xs.map (rnE d))
  | .mb c x => .mb c (rnE d x)
def pMod (d : Nat) : Nat → Bool := fun i => i % 1000 != d
/-- the answer sealed. -/
def slE : E → E
  | .d x => .d x
  | .own _ k rows _ => .d (.sl k rows)
  | .bx _ _ => .un
  | .bs _ _ _ => .un
  | .ag xs => .ag (xs.map fun y => .d (cD y))
  | .un => .un
def slT : T → T
  | .e x => .e (slE x)
  | .tup xs => .tup (xs.map slE)
  | .mb c x => .mb c (slE x)
theorem OwnR.base {B B' : Nat} {g : Gh} {w : World} {e k : Nat} {rows : List (List D)} {tok : Nat} {v : Value} (h : OwnR B g w e k rows tok v) (hB : B' ≤ B) : OwnR B' g w e k rows tok v := by
  obtain ⟨xs, h1, h2⟩ := h
  exact ⟨xs, ⟨h1.1, h1.2.imp id fun ⟨b, cap, cur, hv, hb, r⟩ => ⟨b, cap, cur, hv, by omega, r⟩⟩, h2⟩
section
variable {x : Cx} {g g' : Gh} {σ : St} {a : Act} {w w' : World}
/-- behind a call: the answer sealed. -/
theorem Rel.callS (h : Rel x g σ a w) (hb : Below w.heap.size w w') (hS : ∀ b o, b < w.heap.size → (g'.S b o ↔ g.S b o)) (hn : ∀ b o, g'.S b o → b < w'.heap.size) {r : T} {v : Value} (hr : RT w.heap.size g' w' r v) :
    Rel x ⟨g.β, g.τ, g'.S⟩ σ a w' ∧ RT x.B ⟨g.β, g.τ, g'.S⟩ w' (slT r) v := by
  have kp : Kp g.S g'.S w w' := ⟨fun b o q => (hS b o (h.new b o q)).2 q, fun b o q => hb.cell (p := ⟨b, o, none⟩) (h.new b o q)⟩
  have ev : Ev pAll pAll g ⟨g.β, g.τ, g'.S⟩ w w' := ⟨kp, fun t _ => ⟨rfl, fun b hb' => ⟨hb.block b (h.tlt t b hb').2, fun o => hS b o (h.tlt t b hb').2⟩⟩, fun _ _ => rfl⟩
  have h1 := h.ev ev (hb.mono h.base) (fun i _ hs => by
    obtain ⟨row, hrw⟩ := Option.isSome_iff_exists.1 hs
    obtain ⟨b1, b2, ty, us, hh, -⟩ := h.bx i row hrw
    have hlt : g.β i < w.heap.size := by
      rcases Nat.lt_or_ge (g.β i) w.heap.size with q | q
      · exact q
      · rw [Array.getElem?_eq_none q] at hh; cases hh
    exact ⟨hb.block _ hlt, fun o q => b2 o ((hS _ o hlt).1 q), fun t => h.bt i t hs⟩) (fun b o q => hS b o (Nat.lt_of_lt_of_le q h.base)) hn h.tinj (fun i b q => ⟨(h.tlt i b q).1, Nat.lt_of_lt_of_le (h.tlt i b q).2 hb.size⟩)
  have hid : σ.sc pAll pAll = σ := by
    have he : ∀ y, scE pAll pAll y = y := by
      intro y
      cases y <;> simp [scE, pAll, ← pAll.eq_1, scC_all_map]
    unfold St.sc
    cases σ with
    | mk t b =>
      congr 1
      · funext i
        show scT pAll pAll (t i) = t i
        cases t i <;> simp [scT, he, List.map_id'']
      · funext i
        simp only [pAll, if_true]
        cases hb0 : b i with
        | none => rfl
        | some row => simp only [Option.map_some]; congr 1; exact scC_all_map row
  rw [hid] at h1
  refine ⟨h1, ?_⟩
  have key : ∀ y v, RE w.heap.size g' w' y v → RE x.B ⟨g.β, g.τ, g'.S⟩ w' (slE y) v := by
    intro y v hy
    cases y with
    | d z => exact hy
    | own e k rows t =>
      have hy : OwnR w.heap.size g' w' e k rows t v := hy
      show Rep g'.S w' (.sl k rows) v
      exact hy.rep
    | bx i o => trivial
    | bs i k n => trivial
    | ag xs =>
      obtain ⟨us, rfl, hus⟩ := hy
      refine ⟨us, rfl, ?_⟩
      have := RCs.ofD (B := x.B) (g := ⟨g.β, g.τ, g'.S⟩) hus.toD
      rwa [List.map_map] at this
    | un => trivial
  cases r with
  | e y => exact key y v hr
  | tup xs =>
    obtain ⟨us, rfl, h1, h2⟩ := hr
    refine ⟨us, rfl, by simp [h1], fun j y u hy hu => ?_⟩
    rw [List.getElem?_map] at hy
    cases hj : xs[j]? with
    | none => rw [hj] at hy; cases hy
    | some z => rw [hj] at hy; injection hy with hy; subst hy; exact key z u (h2 j z u hj hu)
  | mb c y => exact ⟨fun hc => key y v (hr.1 hc), hr.2⟩
/-- behind a call: the answer's own slices are the caller's own. -/
theorem Rel.callR (h : Rel x g σ a w) (hb : Below w.heap.size w w') (hS : ∀ b o, b < w.heap.size → (g'.S b o ↔ g.S b o)) (hn : ∀ b o, g'.S b o → b < w'.heap.size)
    (hti : ∀ i j b, g'.τ i = some b → g'.τ j = some b → i = j) (htl : ∀ i b, g'.τ i = some b → w.heap.size ≤ b ∧ b < w'.heap.size) (d : Nat) (hd : d < 1000) {r : T} {v : Value} (hr : RT w.heap.size g' w' r v) :
    ∃ g2, Rel x g2 (σ.sc (pMod d) pAll) a w' ∧ RT x.B g2 w' (rnT d r) v := by
  have kp : Kp g.S g'.S w w' := ⟨fun b o q => (hS b o (h.new b o q)).2 q, fun b o q => hb.cell (p := ⟨b, o, none⟩) (h.new b o q)⟩
  have ev : Ev (pMod d) pAll g ⟨g.β, fun t => if t % 1000 = d then (if 1000 ≤ t then g'.τ (t / 1000 - 1) else none) else g.τ t, g'.S⟩ w w' := by
    refine ⟨kp, fun t ht => ⟨?_, fun b hb' => ⟨hb.block b (h.tlt t b hb').2, fun o => hS b o (h.tlt t b hb').2⟩⟩, fun _ _ => rfl⟩
    simp only [pMod, bne_iff_ne, ne_eq] at ht
    simp [ht]
  have hnew : ∀ t b, t % 1000 = d → (if 1000 ≤ t then g'.τ (t / 1000 - 1) else none) = some b → 1000 ≤ t ∧ g'.τ (t / 1000 - 1) = some b := by
    intro t b _ q
    split at q
    · exact ⟨by assumption, q⟩
    · cases q
  refine ⟨_, h.ev ev (hb.mono h.base) (fun i _ hs => ?_) (fun b o q => hS b o (Nat.lt_of_lt_of_le q h.base)) hn (fun i j b hi hj => ?_) (fun i b hi => ?_), ?_⟩
  · obtain ⟨row, hrw⟩ := Option.isSome_iff_exists.1 hs
    obtain ⟨b1, b2, ty, us, hh, -⟩ := h.bx i row hrw
    have hlt : g.β i < w.heap.size := by
      rcases Nat.lt_or_ge (g.β i) w.heap.size with q | q
      · exact q
      · rw [Array.getElem?_eq_none q] at hh; cases hh
    refine ⟨hb.block _ hlt, fun o q => b2 o ((hS _ o hlt).1 q), fun t q => ?_⟩
    simp only at q
    split at q
    · rename_i ht
      have := (htl _ _ (hnew t _ ht q).2).1
      omega
    · exact h.bt i t hs q
  · simp only at hi hj
    split at hi <;> split at hj
    · rename_i h1 h2
      obtain ⟨p1, p2⟩ := hnew i b h1 hi
      obtain ⟨p3, p4⟩ := hnew j b h2 hj
      have := hti _ _ b p2 p4
      omega
    · rename_i h1 h2
      have := (htl _ _ (hnew i b h1 hi).2).1
      have := (h.tlt j b hj).2
      omega
    · rename_i h1 h2
      have := (htl _ _ (hnew j b h2 hj).2).1
      have := (h.tlt i b hi).2
      omega
    · exact h.tinj i j b hi hj
  · simp only at hi
    split at hi
    · rename_i h1
      have := htl _ _ (hnew i b h1 hi).2
      have := h.base
      omega
    · have := h.tlt i b hi
      have := hb.size
      omega
  · have htok : ∀ t, (if (1000 * (t + 1) + d) % 1000 = d then (if 1000 ≤ 1000 * (t + 1) + d then g'.τ ((1000 * (t + 1) + d) / 1000 - 1) else none) else g.τ (1000 * (t + 1) + d)) = g'.τ t := by
      intro t
      rw [if_pos (by omega), if_pos (by omega), show (1000 * (t + 1) + d) / 1000 - 1 = t by omega]
    have keyO : ∀ e k rows t v, OwnR w.heap.size g' w' e k rows t v → OwnR x.B ⟨g.β, fun t => if t % 1000 = d then (if 1000 ≤ t then g'.τ (t / 1000 - 1) else none) else g.τ t, g'.S⟩ w' e k rows (1000 * (t + 1) + d) v := by
      intro e k rows t v ho
      obtain ⟨xs, o1, o2, o3⟩ := ho.base h.base
      exact ⟨xs, o1, by rw [o2]; exact (htok t).symm, o3⟩
    have keyC : ∀ y v, RC w.heap.size g' w' y v → RC x.B ⟨g.β, fun t => if t % 1000 = d then (if 1000 ≤ t then g'.τ (t / 1000 - 1) else none) else g.τ t, g'.S⟩ w' (rnC d y) v := by
      intro y v hy
      cases y with
      | d z => exact hy
      | own e k rows t => exact keyO e k rows t v hy
    have key : ∀ y v, RE w.heap.size g' w' y v → RE x.B ⟨g.β, fun t => if t % 1000 = d then (if 1000 ≤ t then g'.τ (t / 1000 - 1) else none) else g.τ t, g'.S⟩ w' (rnE d y) v := by
      intro y v hy
      cases y with
      | d z => exact hy
      | own e k rows t => exact keyO e k rows t v hy
      | bx i o => trivial
      | bs i k n => trivial
      | ag xs =>
        obtain ⟨us, rfl, hus⟩ := hy
        refine ⟨us, rfl, by simp [hus.1], fun j y u hy hu => ?_⟩
        rw [List.getElem?_map] at hy
        cases hj : xs[j]? with
        | none => rw [hj] at hy; cases hy
        | some z => rw [hj] at hy; injection hy with hy; subst hy; exact keyC z u (hus.2 j z u hj hu)
      | un => trivial
    cases r with
    | e y => exact key y v hr
    | tup xs =>
      obtain ⟨us, rfl, h1, h2⟩ := hr
      refine ⟨us, rfl, by simp [h1], fun j y u hy hu => ?_⟩
      rw [List.getElem?_map] at hy
      cases hj : xs[j]? with
      | none => rw [hj] at hy; cases hy
      | some z => rw [hj] at hy; injection hy with hy; subst hy; exact key z u (h2 j z u hj hu)
    | mb c y => exact ⟨fun hc => key y v (hr.1 hc), hr.2⟩
end
end Go.Proofs.Ythmedgipfdoneaa

/- The engine, eleventh part: a region's operations, in the order of the text. -/
namespace Go.Proofs.Ythmedgipfdoneaa
set_option linter.unusedVariables false
set_option linter.unusedSimpArgs false
open Go.RowKit
/-- a closure over sealed variables. -/
def aCaps (σ : St) : List Operand → Option (Prop × List D)
  | [] => some (True, [])
  | z :: l => match bodyT (ev σ z), aCaps σ l with
    | .d y, some (ob, ys) => some (oblT (ev σ z) ∧ ob, y :: ys)
    | _, _ => none
def aopF (σ : St) : Op → Option (Prop × T)
  | .makeFunc (.func f) first caps => match first.toList, aCaps σ caps.toList with
    | [], some (ob, ys) => some (ob, .e (.d (.fn f ys)))
    | _, _ => none
  | _ => none
theorem aCaps_ok {x : Cx} {σ : St} {g : Gh} {a : Act} {w : World} (hr : Rel x g σ a w) : ∀ (l : List Operand) (ob : Prop) (ys : List D), aCaps σ l = some (ob, ys) → ob → RepL g.S w ys (l.map a.eval)
  | [], ob, ys, h, ho => by injection h with h; injection h with e1 e2; subst e2; exact RepL.nil _ _
  | z :: l, ob, ys, h, ho => by
    unfold aCaps at h
    split at h
    · rename_i y ob' ys' hz hl
      injection h with h; injection h with e1 e2
      subst e1 e2
      have h1 := body_ok (ev_ok hr z) ho.1
      rw [hz] at h1
      exact RepL.cons h1 (aCaps_ok hr l ob' ys' hl ho.2)
    · cases h
theorem aopF_ok {x : Cx} {σ : St} {o : Oper} {ob : Prop} {y : T} (h : aopF σ o.op = some (ob, y)) (ho : ob) {g : Gh} {a : Act} {w : World} (hr : Rel x g σ a w) :
    ∃ r, (execOp a.eval o).run x.P w = .ok (.value r) w ∧ RT x.B g w y r := by
  unfold aopF at h
  split at h
  · rename_i f first caps hop
    split at h
    · rename_i ob' ys h1 h2
      injection h with h; injection h with e1 e2
      subst e1 e2
      have hf : first = #[] := Array.ext' h1
      subst hf
      have hc := aCaps_ok hr _ _ _ h2 ho
      have hl : ys.length = caps.toList.length := by have := hc.1; simpa using this.symm
      have hval : (caps.map a.eval) = ((List.range ys.length).map fun j => (caps.toList.map a.eval).getD j undef).toArray := by
        apply Array.ext'
        rw [Array.toList_map]
        apply List.ext_getElem?
        intro j
        rcases Nat.lt_or_ge j ys.length with q | q
        · rw [List.getElem?_map (l := List.range ys.length), List.getElem?_range q, Option.map_some, List.getD_eq_getElem?_getD]
          have hj : j < (caps.toList.map a.eval).length := by simp; rw [← Array.length_toList]; omega
          rw [List.getElem?_eq_getElem hj]; rfl
        · rw [List.getElem?_eq_none (by simp; rw [← Array.length_toList]; omega), List.getElem?_eq_none (by simpa using q)]
      refine ⟨.func (.func f) #[] (caps.map a.eval), ?_, ?_⟩
      · simp only [execOp, hop, Instr.makeFunc, Sem.run_bind, Sem.run_pure, Result.andThen_ok, Array.map_empty]
      · rw [hval]
        refine Rep.fn _ fun j d hj => ?_
        have hlt : j < (caps.toList.map a.eval).length := by rw [hc.1]; exact (List.getElem?_eq_some_iff.1 hj).1
        have := hc.2 j d _ hj (List.getElem?_eq_getElem hlt)
        rw [List.getD_eq_getElem?_getD, List.getElem?_eq_getElem hlt]; exact this
    · cases h
  · cases h
/-- an operation that changes nothing. -/
def aopP (P : Program) (σ : St) (op : Op) : Option (Prop × T) := match aop1 P σ op with
  | some r => some r
  | none => aopF σ op
theorem aopP_ok {x : Cx} {σ : St} {o : Oper} {ob : Prop} {y : T} (h : aopP x.P σ o.op = some (ob, y)) (ho : ob) {g : Gh} {a : Act} {w : World} (hr : Rel x g σ a w) :
    ∃ r, (execOp a.eval o).run x.P w = .ok (.value r) w ∧ RT x.B g w y r := by
  unfold aopP at h
  split at h
  · rename_i r h1
    injection h with h
    subst h
    exact aop1_ok h1 ho hr
  · exact aopF_ok h ho hr
/-- the value that a guard gives. -/
def gdT (c : Bool) : T → T
  | .e x => .mb c x
  | .mb c' x => .mb (c && c') x
  | .tup _ => .e .un
theorem gdT_true {B : Nat} {g : Gh} {w : World} {y : T} {v : Value} (h : RT B g w y v) : RT B g w (gdT true y) v := by
  cases y with
  | e x => exact ⟨fun _ => h, fun q => (by cases q)⟩
  | tup xs => trivial
  | mb c x => exact ⟨fun q => h.1 (by simpa using q), fun q => h.2 (by simpa using q)⟩
theorem gdT_false (B : Nat) (g : Gh) (w : World) (y : T) : RT B g w (gdT false y) undef := by
  cases y with
  | e x => exact ⟨fun q => (by cases q), fun _ => rfl⟩
  | tup xs => trivial
  | mb c x => exact ⟨fun q => (by cases q), fun _ => rfl⟩
def gvT (y : T) (want : Bool) : Option Bool := match y with
  | .e (.d (.s (.bool b))) => some (b == want)
  | .mb c (.d (.s (.bool b))) => some (c && (b == want))
  | _ => none
def dstAt (ops : Array Oper) (j : Nat) : Option Tmp := (ops[j]?).bind (·.dst)
def grd (ops : Array Oper) (σ : St) (j : Nat) (want : Bool) : Option Bool := match dstAt ops j with
  | some t => gvT (σ.t t) want
  | none => none
/-- the slots that a region writes are slots. -/
def chk (N : Nat) (ops : Array Oper) : Bool := ops.toList.all fun o => match o.dst with
  | some d => decide (d < N) && decide (d < 1000)
  | none => true
theorem chk_spec {N : Nat} {ops : Array Oper} (h : chk N ops = true) {j : Nat} {o : Oper} (ho : ops[j]? = some o) {d : Tmp} (hd : o.dst = some d) : d < N ∧ d < 1000 := by
  have := List.all_eq_true.1 h o (by rw [← Array.getElem?_toList] at ho; exact List.mem_of_getElem? ho)
  rw [hd] at this
  simpa using this
theorem grd_ok {x : Cx} {g : Gh} {σ : St} {a : Act} {w : World} (hr : Rel x g σ a w) {ops : Array Oper} (hc : chk x.N ops = true) {j : Nat} {want c : Bool} (h : grd ops σ j want = some c) :
    (yielded ops a.tmps j == some want) = c := by
  unfold grd at h
  split at h
  · rename_i t ht
    have htN : t < a.tmps.size := by
      rw [hr.sz]
      unfold dstAt at ht
      cases ho : ops[j]? with
      | none => rw [ho] at ht; cases ht
      | some o => rw [ho] at ht; exact (chk_spec hc ho ht).1
    have hy : yielded ops a.tmps j = match a.tmps.getD t undef with | .bool b => some b | _ => none := by
      unfold yielded
      unfold dstAt at ht
      rw [ht]
      simp only [Option.bind_some, Array.getElem?_eq_getElem htN]
      rw [show a.tmps.getD t undef = a.tmps[t] by rw [Array.getD_eq_getD_getElem?, Array.getElem?_eq_getElem htN]; rfl]
      split <;> rename_i q
      · injection q with q; rw [q]
      · split
        · rename_i b q'; rw [q'] at q; exact absurd rfl (q b)
        · rfl
    have h1 := hr.tm t
    unfold gvT at h
    split at h
    · rename_i b hb
      injection h with h
      rw [hb] at h1
      have hv : a.tmps.getD t undef = .bool b := Rep.s_inv h1
      rw [hy, hv, ← h]
      cases b <;> cases want <;> rfl
    · rename_i c' b hb
      injection h with h
      rw [hb] at h1
      cases c' with
      | true =>
        have hv : a.tmps.getD t undef = .bool b := Rep.s_inv (h1.1 rfl)
        rw [hy, hv, ← h]
        cases b <;> cases want <;> rfl
      | false =>
        have hv : a.tmps.getD t undef = undef := h1.2 rfl
        rw [hy, hv, ← h]
        cases want <;> rfl
    · cases h
  · cases h
/-- arguments of a call. -/
def aArgs (σ : St) : List Operand → Option (Prop × List A)
  | [] => some (True, [])
  | z :: l => match argE (bodyT (ev σ z)), aArgs σ l with
    | some y, some (ob, ys) => some (oblT (ev σ z) ∧ ob, y :: ys)
    | _, _ => none
def RAs (S : Seal) (w : World) (ars : List A) (us : List Value) : Prop := us.length = ars.length ∧ ∀ (j : Nat) (b : A) (u : Value), ars[j]? = some b → us[j]? = some u → RA S w b u
theorem aArgs_ok {x : Cx} {σ : St} {g : Gh} {a : Act} {w : World} (hr : Rel x g σ a w) : ∀ (l : List Operand) (ob : Prop) (ys : List A), aArgs σ l = some (ob, ys) → ob → RAs g.S w ys (l.map a.eval)
  | [], ob, ys, h, ho => by injection h with h; injection h with e1 e2; subst e2; exact ⟨rfl, fun j b u q => by simp at q⟩
  | z :: l, ob, ys, h, ho => by
    unfold aArgs at h
    split at h
    · rename_i y ob' ys' hz hl
      injection h with h; injection h with e1 e2
      subst e1 e2
      have h1 := argE_ok hz (body_ok (ev_ok hr z) ho.1)
      obtain ⟨i1, i2⟩ := aArgs_ok hr l ob' ys' hl ho.2
      refine ⟨by simpa using i1, fun j b u q r => ?_⟩
      cases j with
      | zero => simp at q r; subst q r; exact h1
      | succ j => exact i2 j b u (by simpa using q) (by simpa using r)
    · cases h
def aCallee (σ : St) : Op → Option (Prop × FuncId × List A)
  | .call ⟨.value fo, args, _⟩ => match bodyT (ev σ fo), aArgs σ args.toList with
    | .d (.fn f caps), some (ob, ars) => some (oblT (ev σ fo) ∧ ob, f, ars ++ caps.map .d)
    | _, _ => none
  | _ => none
theorem aCallee_ok {x : Cx} {σ : St} {o : Oper} {ob : Prop} {f : FuncId} {ars : List A} (h : aCallee σ o.op = some (ob, f, ars)) (ho : ob) {g : Gh} {a : Act} {w : World} (hr : Rel x g σ a w) :
    ∃ vs : List Value, RAs g.S w ars vs ∧ (execOp a.eval o).run x.P w = (callFunc f vs.toArray).run x.P w := by
  unfold aCallee at h
  split at h
  · rename_i fo args ts hop
    split at h
    · rename_i f' caps ob' as' hf ha
      injection h with h; injection h with e1 e2; injection e2 with e2 e3
      subst e1 e2 e3
      have h1 := body_ok (ev_ok hr fo) ho.1
      rw [hf] at h1
      have h2 := aArgs_ok hr _ _ _ ha ho.2
      have h1 : Rep g.S w (.fn f' caps) (a.eval fo) := h1
      generalize hv : a.eval fo = v at h1
      cases h1 with
      | fn us hus =>
        refine ⟨args.toList.map a.eval ++ (List.range caps.length).map us, ⟨by have := h2.1; simp only [List.length_append, List.length_map, List.length_range] at this ⊢; omega, fun j b u q r => ?_⟩, ?_⟩
        · have hl := h2.1
          rcases Nat.lt_or_ge j as'.length with lt | ge
          · rw [List.getElem?_append_left lt] at q
            rw [List.getElem?_append_left (by omega)] at r
            exact h2.2 j b u q r
          · rw [List.getElem?_append_right ge, List.getElem?_map] at q
            rw [List.getElem?_append_right (by omega), hl, List.getElem?_map] at r
            cases hc : caps[j - as'.length]? with
            | none => rw [hc] at q; cases q
            | some d =>
              rw [hc] at q
              injection q with q
              subst q
              rw [List.getElem?_range (List.getElem?_eq_some_iff.1 hc).1] at r
              injection r with r
              subst r
              exact hus _ d hc
        · simp only [execOp, hop, resolve, Sem.run_bind, Deferred.ofValue, hv, Sem.run_pure, Result.andThen_ok, invoke, Array.empty_append]
          congr 2
          apply Array.ext'
          simp
    · cases h
  · cases h
/-- a call: its answer is the callee's word. -/
def ACall (P : Program) (σ : St) (o : Oper) (K : St → Prop) : Prop :=
  ∃ d ob f ars Rs, o.dst = some d ∧ aCallee σ o.op = some (ob, f, ars) ∧ ob ∧ FCon P f ars Rs ∧ ∀ r, Rs r → K ((σ.sc (pMod d) pAll).put (some d) (rnT d r))
/-- a call whose answer's memory is not the caller's to write; under a guard. -/
def ACallQ (P : Program) (σ : St) (o : Oper) (c : Bool) (wr : T → T) (K : St → Prop) : Prop :=
  ∃ r, (c = true → ∃ d ob f ars r', o.dst = some d ∧ aCallee σ o.op = some (ob, f, ars) ∧ ob ∧ FCon P f ars (· = r') ∧ r = slT r') ∧ K (σ.put o.dst (wr r))
def astep (P : Program) (ops : Array Oper) (o : Oper) (σ : St) (K : St → Prop) : Prop := match o.guard with
  | none => match aopP P σ o.op with
    | some (ob, y) => ob ∧ K (σ.put o.dst y)
    | none => match aop2 P σ o.dst o.op with
      | some (ob, y, σ') => ob ∧ K (σ'.put o.dst y)
      | none => ACall P σ o K
  | some (j, want) => match grd ops σ j want with
    | none => False
    | some c => match aopP P σ o.op with
      | some (ob, y) => (c = true → ob) ∧ K (σ.put o.dst (gdT c y))
      | none => ACallQ P σ o c (gdT c) K
def aops (P : Program) (ops : Array Oper) (K : St → Prop) : List Oper → St → Prop
  | [], σ => K σ
  | o :: rest, σ => astep P ops o σ (aops P ops K rest)
theorem put_un_none {σ : St} {y : T} : σ.put none y = σ := rfl
theorem aops_sound {x : Cx} {ops : Array Oper} (hc : chk x.N ops = true) {K : St → Prop} {Q : Exit → Act → World → Prop} (hQ : ∀ σ' g' a' w', Rel x g' σ' a' w' → K σ' → Q .normal a' w') :
    ∀ (l : List Oper), (∀ o ∈ l, ∀ d, o.dst = some d → d < x.N ∧ d < 1000) → ∀ (σ : St) (g : Gh) (a : Act) (w : World), Rel x g σ a w → aops x.P ops K l σ → wpList x.P ops Q l a w
  | [], _, σ, g, a, w, hr, h => hQ σ g a w hr h
  | o :: rest, hl, σ, g, a, w, hr, h => by
    have ih := aops_sound hc hQ rest (fun o' ho' => hl o' (List.mem_cons_of_mem _ ho'))
    have hd := hl o (by simp)
    have hdN : ∀ d, o.dst = some d → d < x.N := fun d q => (hd d q).1
    simp only [aops, astep] at h
    unfold wpList
    split at h
    · rename_i hgd
      rw [if_pos (by simp [Region.wanted, hgd])]
      left
      unfold Oper.wp
      split at h
      · rename_i ob y hop
        obtain ⟨r, r1, r2⟩ := aopP_ok hop h.1 hr
        rw [r1, Oper.upon_value]
        exact ih _ _ _ _ (hr.put r2 o.dst hdN) h.2
      · split at h
        · rename_i ob y σ' hop
          obtain ⟨w', g', r0, r1⟩ := aop2_ok hop h.1 hr
          rcases r1 with ⟨r, r1, r2⟩ | ⟨r1, r2⟩
          · rw [r1, Oper.upon_value]
            exact ih _ _ _ _ (r0.put r2 o.dst hdN) h.2
          · rw [r1, Oper.upon_skip]
            exact ih _ _ _ _ (r0.put (y := y) (v := undef) (by rw [r2]; trivial) o.dst hdN) h.2
        · obtain ⟨d, ob, f, ars, Rs, hdst, hcal, ho, hF, hK⟩ := h
          obtain ⟨vs, v1, v2⟩ := aCallee_ok hcal ho hr
          rw [v2, hF.ent, Oper.upon_enter]
          refine (hF.run w g.S vs hr.new v1.1 v1.2).mono ?_
          rintro e w' ⟨v, g', r, rfl, b1, b2, b3, b4, b5, b6, b7⟩
          obtain ⟨g2, c1, c2⟩ := hr.callR b1 b2 b3 b4 b5 d (hd d hdst).2 b7
          rw [hdst]
          exact ih _ _ _ _ (c1.put c2 (some d) (fun d' q => hdN d' (by rw [hdst]; exact q))) (hK r b6)
    · rename_i j want hgd
      split at h
      · exact h.elim
      · rename_i c hcg
        have hw : Region.wanted o (yielded ops a.tmps) = c := by
          simp only [Region.wanted, hgd]
          exact grd_ok hr hc hcg
        cases c with
        | true =>
          rw [if_pos hw]
          left
          unfold Oper.wp
          split at h
          · rename_i ob y hop
            obtain ⟨r, r1, r2⟩ := aopP_ok hop (h.1 rfl) hr
            rw [r1, Oper.upon_value]
            exact ih _ _ _ _ (hr.put (gdT_true r2) o.dst hdN) h.2
          · obtain ⟨r0, hF, hK⟩ := h
            obtain ⟨d, ob, f, ars, r, hdst, hcal, ho, hFF, rfl⟩ := hF rfl
            obtain ⟨vs, v1, v2⟩ := aCallee_ok hcal ho hr
            rw [v2, hFF.ent, Oper.upon_enter]
            refine (hFF.run w g.S vs hr.new v1.1 v1.2).mono ?_
            rintro e w' ⟨v, g', r', rfl, b1, b2, b3, b4, b5, rfl, b7⟩
            obtain ⟨c1, c2⟩ := hr.callS b1 b2 b3 b7
            exact ih _ _ _ _ (c1.put (gdT_true c2) o.dst hdN) hK
        | false =>
          rw [if_neg (by rw [hw]; simp)]
          split at h
          · rename_i ob y hop
            exact ih _ _ _ _ (hr.put (gdT_false x.B g w y) o.dst hdN) h.2
          · obtain ⟨r0, -, hK⟩ := h
            exact ih _ _ _ _ (hr.put (gdT_false x.B g w _) o.dst hdN) hK
end Go.Proofs.Ythmedgipfdoneaa

/- The engine, twelfth part: a region that draws its order, all its operations quiet: the order of the text serves every order. -/
namespace Go.Proofs.Ythmedgipfdoneaa
set_option linter.unusedVariables false
set_option linter.unusedSimpArgs false
open Go.RowKit
section
variable {P : Program} {N : Nat} {ops : Array Oper} {K : St → Prop}
/-- whatever else the slots hold, the operation yields y. -/
def Yl (P : Program) (N : Nat) (ops : Array Oper) (o : Oper) (σ : St) (y : T) : Prop :=
  ∀ σ' : St, (∀ t ∈ o.looksAt ops, σ'.t t = σ.t t) → σ'.b = σ.b → ∀ (x : Cx) (g : Gh) (a : Act) (w : World), x.P = P → x.N = N → Rel x g σ' a w →
    (Region.wanted o (yielded ops a.tmps) = true ∧ ∀ (K : Act → World → Prop) (Q : Exit → Act → World → Prop), (∀ g' a' w', Rel x g' (σ'.put o.dst y) a' w' → K a' w') → o.wp P a w K Q) ∨
    (Region.wanted o (yielded ops a.tmps) = false ∧ Rel x g (σ'.put o.dst y) (a.put o.dst undef) w)
def aAnyQ (P : Program) (N : Nat) (ops : Array Oper) (K : St → Prop) : Nat → Array Bool → St → Prop
  | 0, listed, σ => Region.ready .any ops listed = [] ∧ K σ
  | fuel + 1, listed, σ => (Region.ready .any ops listed = [] → K σ) ∧ ∀ i ∈ Region.ready .any ops listed, ∃ o y, ops[i]? = some o ∧ Yl P N ops o σ y ∧ aAnyQ P N ops K fuel (listed.setIfInBounds i true) (σ.put o.dst y)
def aLexQ (P : Program) (N : Nat) (ops : Array Oper) (K : St → Prop) : List Oper → St → Prop
  | [], σ => K σ
  | o :: rest, σ => ∃ y, Yl P N ops o σ y ∧ aLexQ P N ops K rest (σ.put o.dst y)
theorem St.put_comm (σ : St) {d e : Option Tmp} (u v : T) (h : ∀ i, d = some i → e ≠ some i) : (σ.put d u).put e v = (σ.put e v).put d u := by
  cases d with
  | none => rfl
  | some d =>
    cases e with
    | none => rfl
    | some e =>
      have hne : d ≠ e := fun q => h d rfl (q ▸ rfl)
      simp only [St.put]
      congr 1
      funext i
      by_cases h1 : i = e
      · simp [h1, Ne.symm hne]
      · simp [h1]
theorem St.put_other (σ : St) {d : Option Tmp} (u : T) {l : List Tmp} (h : ∀ i, d = some i → i ∉ l) : ∀ t ∈ l, (σ.put d u).t t = σ.t t := by
  intro t ht
  cases d with
  | none => rfl
  | some d =>
    have : t ≠ d := fun q => h d rfl (q ▸ ht)
    simp [St.put, this]
theorem St.put_b (σ : St) (d : Option Tmp) (u : T) : (σ.put d u).b = σ.b := by cases d <;> rfl
theorem Yl.put {o : Oper} {σ : St} {y : T} (h : Yl P N ops o σ y) {d : Option Tmp} (u : T) (hd : ∀ i, d = some i → i ∉ o.looksAt ops) : Yl P N ops o (σ.put d u) y := by
  intro σ' h1 h2
  exact h σ' (fun t ht => (h1 t ht).trans (St.put_other σ u hd t ht)) (h2.trans (St.put_b _ _ _))
theorem Yl.unput {o : Oper} {σ : St} {y : T} {d : Option Tmp} {u : T} (h : Yl P N ops o (σ.put d u) y) (hd : ∀ i, d = some i → i ∉ o.looksAt ops) : Yl P N ops o σ y := by
  intro σ' h1 h2
  exact h σ' (fun t ht => (h1 t ht).trans (St.put_other σ u hd t ht).symm) (h2.trans (St.put_b _ _ _).symm)
theorem aAnyQ_first {i : Nat} {oi : Oper} {y : T} (hi : ops[i]? = some oi) :
    ∀ (fuel : Nat) (listed : Array Bool) (σ : St),
      (∀ j oj, ops[j]? = some oj → j ≠ i → listed.getD j true = false → (∀ e ∈ oj.after, Region.binds .any e = true → e.on ≠ i) → oi.apart ops oj = true) →
      i ∈ Region.ready .any ops listed → Yl P N ops oi σ y →
      aAnyQ P N ops K fuel (listed.setIfInBounds i true) (σ.put oi.dst y) → aAnyQ P N ops K (fuel + 1) listed σ := by
  intro fuel
  induction fuel with
  | zero =>
    intro listed σ hfree hr hy H
    refine ⟨fun h => (by rw [h] at hr; cases hr), fun j hj => ?_⟩
    by_cases hji : j = i
    · subst hji; exact ⟨oi, y, hi, hy, H⟩
    · have := ready_mono hj hji
      rw [H.1] at this
      cases this
  | succ fuel ih =>
    intro listed σ hfree hr hy H
    refine ⟨fun h => (by rw [h] at hr; cases hr), fun j hj => ?_⟩
    by_cases hji : j = i
    · subst hji; exact ⟨oi, y, hi, hy, H⟩
    · obtain ⟨oj, z, hoj, hz, H1⟩ := H.2 j (ready_mono hj hji)
      obtain ⟨hjun, oj', hoj', hall⟩ := mem_ready.1 hj
      rw [hoj] at hoj'
      injection hoj' with hoj'
      subst hoj'
      have hnot : ∀ e ∈ oj.after, Region.binds .any e = true → e.on ≠ i := fun e he hb heq => by
        have h1 := hall e he hb
        have h0 := (mem_ready.1 hr).1
        rw [heq] at h1
        rcases Nat.lt_or_ge i listed.size with h' | h'
        · simp [h'] at h0 h1; rw [h0] at h1; cases h1
        · simp [Array.getElem?_eq_none h'] at h1
      obtain ⟨a1, a2, a3⟩ := Oper.apart_spec (hfree j oj hoj hji hjun hnot)
      refine ⟨oj, z, hoj, hz.unput a1, ?_⟩
      have hfree' : ∀ k ok, ops[k]? = some ok → k ≠ i → (listed.setIfInBounds j true).getD k true = false →
          (∀ e ∈ ok.after, Region.binds .any e = true → e.on ≠ i) → oi.apart ops ok = true := fun k ok hk hki hun hno => by
        refine hfree k ok hk hki ?_ hno
        by_cases hjk : j = k
        · subst hjk; exact hjun
        · rw [getD_set_ne true hjk] at hun; exact hun
      refine ih (listed.setIfInBounds j true) _ hfree' (ready_mono hr (Ne.symm hji)) (hy.put z a3) ?_
      rw [Array.setIfInBounds_comm _ _ hji, ← St.put_comm σ y z a2]
      exact H1
theorem aAnyQ_lex : ∀ (l : List Oper) (k : Nat) (listed : Array Bool) (σ : St), (∀ j, l[j]? = ops[k + j]?) →
    Region.lexFrom .any ops l.length k listed = true → aLexQ P N ops K l σ → aAnyQ P N ops K l.length listed σ
  | [], _, _, _, _, hB, h => ⟨by simpa [Region.lexFrom] using hB, h⟩
  | o :: l, k, listed, σ, hl, hB, h => by
    have h0 : ops[k]? = some o := by simpa using (hl 0).symm
    simp only [List.length_cons, Region.lexFrom, Bool.and_eq_true] at hB
    obtain ⟨⟨hr, hf⟩, hB'⟩ := hB
    obtain ⟨y, hy, hK⟩ := h
    exact aAnyQ_first h0 l.length listed σ (Region.free_spec h0 hf) (by simpa using hr) hy
      (aAnyQ_lex l (k + 1) _ _ (fun j => by have := hl (j + 1); simpa [Nat.add_assoc, Nat.add_comm 1 j] using this) hB' hK)
theorem wpAny_of_aAnyQ {x : Cx} (hx : x.P = P) (hN : x.N = N) {Q : Exit → Act → World → Prop} (hQ : ∀ σ' g' a' w', Rel x g' σ' a' w' → K σ' → Q .normal a' w') :
    ∀ (fuel : Nat) (listed : Array Bool) (σ : St) (g : Gh) (a : Act) (w : World), Rel x g σ a w → aAnyQ P N ops K fuel listed σ → wpAny P .any ops Q fuel listed a w
  | 0, _, σ, g, a, w, hr, h => ⟨h.1, hQ σ g a w hr h.2⟩
  | fuel + 1, listed, σ, g, a, w, hr, h => by
    refine ⟨fun h0 => hQ σ g a w hr (h.1 h0), fun i hi => ?_⟩
    obtain ⟨o, y, ho, hy, hK⟩ := h.2 i hi
    unfold wpOp
    simp only [ho]
    rcases hy σ (fun _ _ => rfl) rfl x g a w hx hN hr with ⟨hw, h1⟩ | ⟨hw, h1⟩
    · rw [if_pos hw]
      exact .inl (h1 _ _ fun g' a' w' hr' => wpAny_of_aAnyQ hx hN hQ fuel _ _ g' a' w' hr' hK)
    · rw [if_neg (by rw [hw]; simp)]
      exact wpAny_of_aAnyQ hx hN hQ fuel _ _ g _ w h1 hK
end
/-! ### what operations look at -/
theorem ev_congr {σ σ' : St} {z : Operand} (h : ∀ t, z = .tmp t → σ'.t t = σ.t t) : ev σ' z = ev σ z := by
  cases z with
  | tmp t => exact h t rfl
  | const v => rfl
  | global _ => rfl
  | func _ => rfl
theorem looks_op {ops : Array Oper} {o : Oper} {σ σ' : St} (h : ∀ t ∈ o.looksAt ops, σ'.t t = σ.t t) : ∀ z ∈ o.op.operands, ev σ' z = ev σ z := fun z hz =>
  ev_congr fun t ht => h t (by
    subst ht
    exact List.mem_append_left _ (List.mem_filterMap.2 ⟨.tmp t, by simpa using hz, rfl⟩))
theorem aLoad_congr {P : Program} {σ σ' : St} (hb : σ'.b = σ.b) (t : TypeId) (x : E) : aLoad P σ' t x = aLoad P σ t x := by unfold aLoad; rw [hb]
theorem aop1_congr {P : Program} {σ σ' : St} (op : Op) (h : ∀ z ∈ op.operands, ev σ' z = ev σ z) (hb : σ'.b = σ.b) : aop1 P σ' op = aop1 P σ op := by
  cases op <;> simp only [Op.operands] at h <;> simp only [aop1]
  case slice t x lo hi mx =>
    cases mx with
    | some _ => rfl
    | none =>
      have hx := h x (by simp)
      cases lo <;> cases hi <;> simp_all
  case call c =>
    obtain ⟨callee, args, ts⟩ := c
    cases callee with
    | builtin b =>
      cases b <;> try rfl
      simp only [aop1]
      cases ha : args.toList with
      | nil => rfl
      | cons z l =>
        cases l with
        | nil =>
          cases ht : ts.toList with
          | nil => rfl
          | cons t l' =>
            cases l' with
            | nil => dsimp only; rw [h z (by simp [Call.operands, ← Array.mem_toList_iff, ha])]
            | cons _ _ => rfl
        | cons _ _ => rfl
    | value _ => rfl
    | invoke _ _ => rfl
  all_goals (first | rfl | (simp only [aLoad_congr hb]; simp_all; done) | (simp_all; done))
theorem aCaps_congr {σ σ' : St} : ∀ (l : List Operand), (∀ z ∈ l, ev σ' z = ev σ z) → aCaps σ' l = aCaps σ l
  | [], _ => rfl
  | z :: l, h => by
    unfold aCaps
    rw [h z (by simp), aCaps_congr l (fun y hy => h y (by simp [hy]))]
theorem aopP_congr {P : Program} {σ σ' : St} (op : Op) (h : ∀ z ∈ op.operands, ev σ' z = ev σ z) (hb : σ'.b = σ.b) : aopP P σ' op = aopP P σ op := by
  unfold aopP
  rw [aop1_congr op h hb]
  split
  · rfl
  · unfold aopF
    cases op <;> try rfl
    rename_i fn first caps _
    cases fn <;> try rfl
    simp only [Op.operands] at h
    try dsimp only
    rw [aCaps_congr _ (fun z hz => h z (by simp; right; simpa using hz))]
theorem aArgs_congr {σ σ' : St} : ∀ (l : List Operand), (∀ z ∈ l, ev σ' z = ev σ z) → aArgs σ' l = aArgs σ l
  | [], _ => rfl
  | z :: l, h => by
    unfold aArgs
    rw [h z (by simp), aArgs_congr l (fun y hy => h y (by simp [hy]))]
theorem aCallee_congr {σ σ' : St} (op : Op) (h : ∀ z ∈ op.operands, ev σ' z = ev σ z) : aCallee σ' op = aCallee σ op := by
  unfold aCallee
  cases op <;> try rfl
  rename_i c
  obtain ⟨callee, args, ts⟩ := c
  cases callee <;> try rfl
  rename_i fo
  simp only [Op.operands, Call.operands] at h
  dsimp only
  rw [h fo (by simp), aArgs_congr _ (fun z hz => h z (by simp; right; simpa using hz))]
theorem grd_congr {ops : Array Oper} {o : Oper} {σ σ' : St} (h : ∀ t ∈ o.looksAt ops, σ'.t t = σ.t t) {j : Nat} {want : Bool} (hg : o.guard = some (j, want)) : grd ops σ' j want = grd ops σ j want := by
  unfold grd
  cases hd : dstAt ops j with
  | none => rfl
  | some t => dsimp only; rw [h t (by unfold dstAt at hd; simp [Oper.looksAt, hg, hd])]
theorem aRows_congr {σ σ' : St} {k : Nat} : ∀ (l : List (Nat × Operand)) (j : Nat), (∀ z ∈ l, ev σ' z.2 = ev σ z.2) → aRows σ' k j l = aRows σ k j l
  | [], _, _ => rfl
  | (i, z) :: l, j, h => by
    unfold aRows
    rw [h (i, z) (by simp), aRows_congr l (j + 1) (fun y hy => h y (by simp [hy]))]
/-- a literal slice, sealed. -/
def aopB (P : Program) (σ : St) : Op → Option (Prop × T)
  | .buildSlice t len parts => match tk P t with
    | .sl e k _ _ => match aRows σ k 0 parts.toList with
      | some (ob, rows) => some (ob ∧ parts.toList.length = len ∧ len * k ≤ 16777216, .e (.d (.sl k rows)))
      | none => none
    | _ => none
  | .build t parts => match aBuild P σ t parts with
    | some (ob, y) => some (ob, .e y)
    | none => none
  | _ => none
theorem aFill_congr {σ σ' : St} {fs : List (Nat × Nat × Bool)} : ∀ (l : List (Nat × Operand)) (cells : List C), (∀ z ∈ l, ev σ' z.2 = ev σ z.2) → aFill σ' fs cells l = aFill σ fs cells l
  | [], _, _ => rfl
  | (i, z) :: l, cells, h => by
    have e : ev σ' z = ev σ z := h (i, z) (by simp)
    unfold aFill
    rw [e]
    cases fs[i]? with
    | none => rfl
    | some p =>
      obtain ⟨off, sz, ag⟩ := p
      cases cellsE (bodyT (ev σ z)) with
      | none => rfl
      | some xs => simp only [aFill_congr l _ (fun y hy => h y (by simp [hy]))]
theorem aopB_congr {P : Program} {σ σ' : St} (op : Op) (h : ∀ z ∈ op.operands, ev σ' z = ev σ z) : aopB P σ' op = aopB P σ op := by
  unfold aopB
  cases op <;> try rfl
  · rename_i t parts
    simp only [Op.operands] at h
    simp only [aBuild]
    cases tk P t <;> try rfl
    simp only
    rw [aFill_congr _ _ (fun z hz => h z.2 (by simp; exact ⟨z.1, by simpa using hz⟩))]
  · rename_i t len parts
    simp only [Op.operands] at h
    dsimp only
    cases tk P t <;> try rfl
    dsimp only
    rw [aRows_congr _ _ (fun z hz => h z.2 (by simp; exact ⟨z.1, by simpa using hz⟩))]
theorem aopB_ok {x : Cx} {σ : St} {o : Oper} {ob : Prop} {y : T} (h : aopB x.P σ o.op = some (ob, y)) (ho : ob) {g : Gh} {a : Act} {w : World} (hr : Rel x g σ a w) :
    ∃ r w' g', (execOp a.eval o).run x.P w = .ok (.value r) w' ∧ Rel x g' σ a w' ∧ RT x.B g' w' y r := by
  unfold aopB at h
  split at h
  · rename_i t len parts hop
    split at h
    · rename_i e k by_ z hk
      split at h
      · rename_i ob' rows h'
        injection h with h; injection h with e1 e2
        subst e1 e2
        obtain ⟨vals, r3, r4, r5⟩ := lit_run hr hk hop h' ho.1 ho.2.1 ho.2.2
        obtain ⟨g', l1, l2, l3⟩ := hr.lit 0 e k rows vals r3 r4
        obtain ⟨c1, c2⟩ := hr.callS (g' := g') (r := .e (.d (.sl k rows))) ((Below.refl _ _).alloc (Nat.le_refl _) (.cells vals.toArray e)) (fun b o hb => by
          rw [l3]; exact ⟨fun q => q.elim id (fun q => by omega), .inl⟩) (fun b o q => by
          rw [l3] at q
          rw [alloc_size]
          rcases q with q | q
          · have := hr.new b o q; omega
          · omega) l2.rep
        exact ⟨_, _, _, r5, c1, c2⟩
      · cases h
    · cases h
  · rename_i t parts hop
    split at h
    · rename_i ob' y' h'
      injection h with h; injection h with e1 e2
      subst e1 e2
      obtain ⟨r, r1, r2⟩ := aBuild_ok hr h' ho
      refine ⟨r, w, g, ?_, hr, r2⟩
      simp only [execOp, hop, Sem.run_bind, r1]; rfl
    · cases h
  · cases h
/-- one operation of a region that draws its order. -/
def aqst (P : Program) (ops : Array Oper) (o : Oper) (σ : St) (K : St → Prop) : Prop := match o.guard with
  | none => match aopP P σ o.op with
    | some (ob, y) => ob ∧ K (σ.put o.dst y)
    | none => match aopB P σ o.op with
      | some (ob, y) => ob ∧ K (σ.put o.dst y)
      | none => ACallQ P σ o true id K
  | some (j, want) => match grd ops σ j want with
    | none => False
    | some c => match aopP P σ o.op with
      | some (ob, y) => (c = true → ob) ∧ K (σ.put o.dst (gdT c y))
      | none => match aopB P σ o.op with
        | some (ob, y) => (c = true → ob) ∧ K (σ.put o.dst (gdT c y))
        | none => ACallQ P σ o c (gdT c) K
def aqs (P : Program) (ops : Array Oper) (K : St → Prop) : List Oper → St → Prop
  | [], σ => K σ
  | o :: rest, σ => aqst P ops o σ (aqs P ops K rest)
theorem aqst_yl {P : Program} {N : Nat} {ops : Array Oper} (hc : chk N ops = true) {o : Oper} (ho : ∃ i : Nat, ops[i]? = some o) {K : St → Prop} {σ : St} (h : aqst P ops o σ K) : ∃ y, Yl P N ops o σ y ∧ K (σ.put o.dst y) := by
  obtain ⟨io, ho⟩ := ho
  have hdN : ∀ d, o.dst = some d → d < N := fun d q => (chk_spec hc ho q).1
  -- a step that yields in the world at hand or in one with more memory
  have val : ∀ y, (∀ σ' : St, (∀ t ∈ o.looksAt ops, σ'.t t = σ.t t) → σ'.b = σ.b → ∀ (x : Cx) (g : Gh) (a : Act) (w : World), x.P = P → x.N = N → Rel x g σ' a w →
      (Region.wanted o (yielded ops a.tmps) = true ∧ ∃ r w' g', (execOp a.eval o).run P w = .ok (.value r) w' ∧ Rel x g' σ' a w' ∧ RT x.B g' w' y r) ∨ (Region.wanted o (yielded ops a.tmps) = false ∧ RT x.B g w y undef)) → Yl P N ops o σ y := by
    intro y hy σ' h1 h2 x g a w hx hN hr
    rcases hy σ' h1 h2 x g a w hx hN hr with ⟨hw, r, w', g', r1, r2, r3⟩ | ⟨hw, r1⟩
    · refine .inl ⟨hw, fun K Q hK => ?_⟩
      unfold Oper.wp
      rw [r1, Oper.upon_value]
      exact hK _ _ _ (r2.put r3 o.dst (fun d q => by rw [hN]; exact hdN d q))
    · exact .inr ⟨hw, hr.put r1 o.dst (fun d q => by rw [hN]; exact hdN d q)⟩
  unfold aqst at h
  split at h
  · rename_i hgd
    have hw : ∀ a : Act, Region.wanted o (yielded ops a.tmps) = true := fun a => by simp [Region.wanted, hgd]
    split at h
    · rename_i ob y hop
      refine ⟨y, val y fun σ' h1 h2 x g a w hx hN hr => .inl ⟨hw a, ?_⟩, h.2⟩
      subst hx
      obtain ⟨r, r1, r2⟩ := aopP_ok ((aopP_congr o.op (looks_op h1) h2).trans hop) h.1 hr
      exact ⟨r, w, g, r1, hr, r2⟩
    · split at h
      · rename_i ob y hop
        refine ⟨y, val y fun σ' h1 h2 x g a w hx hN hr => .inl ⟨hw a, ?_⟩, h.2⟩
        subst hx
        exact aopB_ok ((aopB_congr o.op (looks_op h1)).trans hop) h.1 hr
      · obtain ⟨r0, hF, hK⟩ := h
        obtain ⟨d, ob, f, ars, r, hdst, hcal, hob, hFF, rfl⟩ := hF rfl
        refine ⟨_, ?_, hK⟩
        intro σ' h1 h2 x g a w hx hN hr
        refine .inl ⟨hw a, fun K Q hKK => ?_⟩
        subst hx
        obtain ⟨vs, v1, v2⟩ := aCallee_ok ((aCallee_congr o.op (looks_op h1)).trans hcal) hob hr
        unfold Oper.wp
        rw [v2, hFF.ent, Oper.upon_enter]
        refine (hFF.run w g.S vs hr.new v1.1 v1.2).mono ?_
        rintro e w' ⟨v, g', r', rfl, b1, b2, b3, b4, b5, rfl, b7⟩
        obtain ⟨c1, c2⟩ := hr.callS b1 b2 b3 b7
        exact hKK _ _ _ (c1.put c2 o.dst (fun d q => by rw [hN]; exact hdN d q))
  · rename_i j want hgd
    split at h
    · exact h.elim
    · rename_i c hcg
      have hw : ∀ (σ' : St), (∀ t ∈ o.looksAt ops, σ'.t t = σ.t t) → ∀ (x : Cx) (g : Gh) (a : Act) (w : World), x.N = N → Rel x g σ' a w → Region.wanted o (yielded ops a.tmps) = c := by
        intro σ' h1 x g a w hN hr
        simp only [Region.wanted, hgd]
        subst hN
        exact grd_ok hr hc ((grd_congr h1 hgd).trans hcg)
      cases c with
      | true =>
        split at h
        · rename_i ob y hop
          refine ⟨_, val _ fun σ' h1 h2 x g a w hx hN hr => .inl ⟨hw σ' h1 x g a w hN hr, ?_⟩, h.2⟩
          subst hx
          obtain ⟨r, r1, r2⟩ := aopP_ok ((aopP_congr o.op (looks_op h1) h2).trans hop) (h.1 rfl) hr
          exact ⟨r, w, g, r1, hr, gdT_true r2⟩
        · split at h
          · rename_i ob y hop
            refine ⟨_, val _ fun σ' h1 h2 x g a w hx hN hr => .inl ⟨hw σ' h1 x g a w hN hr, ?_⟩, h.2⟩
            subst hx
            obtain ⟨r, w', g', r1, r2, r3⟩ := aopB_ok ((aopB_congr o.op (looks_op h1)).trans hop) (h.1 rfl) hr
            exact ⟨r, w', g', r1, r2, gdT_true r3⟩
          · obtain ⟨r0, hF, hK⟩ := h
            obtain ⟨d, ob, f, ars, r, hdst, hcal, hob, hFF, rfl⟩ := hF rfl
            refine ⟨_, ?_, hK⟩
            intro σ' h1 h2 x g a w hx hN hr
            refine .inl ⟨hw σ' h1 x g a w hN hr, fun K Q hKK => ?_⟩
            subst hx
            obtain ⟨vs, v1, v2⟩ := aCallee_ok ((aCallee_congr o.op (looks_op h1)).trans hcal) hob hr
            unfold Oper.wp
            rw [v2, hFF.ent, Oper.upon_enter]
            refine (hFF.run w g.S vs hr.new v1.1 v1.2).mono ?_
            rintro e w' ⟨v, g', r', rfl, b1, b2, b3, b4, b5, rfl, b7⟩
            obtain ⟨c1, c2⟩ := hr.callS b1 b2 b3 b7
            exact hKK _ _ _ (c1.put (gdT_true c2) o.dst (fun d q => by rw [hN]; exact hdN d q))
      | false =>
        have fal : ∀ y, Yl P N ops o σ (gdT false y) := fun y => val _ fun σ' h1 h2 x g a w hx hN hr => .inr ⟨hw σ' h1 x g a w hN hr, gdT_false x.B g w y⟩
        split at h
        · exact ⟨_, fal _, h.2⟩
        · split at h
          · exact ⟨_, fal _, h.2⟩
          · obtain ⟨r0, -, hK⟩ := h
            exact ⟨_, fal _, hK⟩
theorem aLexQ_of_aqs {P : Program} {N : Nat} {ops : Array Oper} (hc : chk N ops = true) {K : St → Prop} : ∀ (l : List Oper), (∀ o ∈ l, ∃ i : Nat, ops[i]? = some o) → ∀ σ, aqs P ops K l σ → aLexQ P N ops K l σ
  | [], _, _, h => h
  | o :: l, hl, σ, h => by
    obtain ⟨y, h1, h2⟩ := aqst_yl hc (hl o (by simp)) h
    exact ⟨y, h1, aLexQ_of_aqs hc l (fun o' h' => hl o' (List.mem_cons_of_mem _ h')) _ h2⟩
end Go.Proofs.Ythmedgipfdoneaa

/- The engine, thirteenth part: code, loops, contracts. -/
namespace Go.Proofs.Ythmedgipfdoneaa
set_option linter.unusedVariables false
set_option linter.unusedSimpArgs false
open Go.RowKit
/-- from every state that the frame stands for, the code ends as K says. -/
def AC (P : Program) (N : Nat) (c : Code) (K : Exit → St → Prop) (σ : St) : Prop :=
  ∀ (x : Cx) (g : Gh) (a : Act) (w : World) (Q : Exit → Act → World → Prop), x.P = P → x.N = N → Rel x g σ a w → (∀ e σ' g' a' w', Rel x g' σ' a' w' → K e σ' → Q e a' w') → c.wp P Q a w
def thenK (K' : St → Prop) (K : Exit → St → Prop) : Exit → St → Prop
  | .normal, σ => K' σ
  | e, σ => K e σ
def blockK (id : Nat) (K : Exit → St → Prop) : Exit → St → Prop
  | .exit id', σ => if id' = id then K .normal σ else K (.exit id') σ
  | e, σ => K e σ
section
variable {P : Program} {N : Nat} {K : Exit → St → Prop} {σ : St}
theorem AC_skip (h : K .normal σ) : AC P N .skip K σ := fun x g a w Q _ _ hr hQ => wp_skip (hQ _ _ _ _ _ hr h)
theorem AC_exit {id : Nat} (h : K (.exit id) σ) : AC P N (.exit id) K σ := fun x g a w Q _ _ hr hQ => wp_exit (hQ _ _ _ _ _ hr h)
theorem AC_ret (h : K .ret σ) : AC P N .ret K σ := fun x g a w Q _ _ hr hQ => wp_ret (hQ _ _ _ _ _ hr h)
theorem AC_seq {c d : Code} (h : ∀ K' : St → Prop, (∀ σ, AC P N d K σ → K' σ) → AC P N c (thenK K' K) σ) : AC P N (.seq c d) K σ := by
  intro x g a w Q hx hN hr hQ
  refine wp_seq (h (fun σ => AC P N d K σ) (fun _ h => h) x g a w _ hx hN hr fun e σ' g' a' w' hr' hK => ?_)
  cases e with
  | normal => exact hK x g' a' w' Q hx hN hr' hQ
  | exit id => exact hQ _ _ _ _ _ hr' hK
  | goto l => exact hQ _ _ _ _ _ hr' hK
  | ret => exact hQ _ _ _ _ _ hr' hK
  | panic c => exact hQ _ _ _ _ _ hr' hK
  | outgrown => exact hQ _ _ _ _ _ hr' hK
theorem AC_block {id : Nat} {c : Code} (h : AC P N c (blockK id K) σ) : AC P N (.block id c) K σ := by
  intro x g a w Q hx hN hr hQ
  refine wp_block (h x g a w _ hx hN hr fun e σ' g' a' w' hr' hK => ?_)
  cases e with
  | exit id' =>
    simp only [Exit.inBlock]
    simp only [blockK] at hK
    split
    · rename_i e; rw [if_pos e] at hK; exact hQ _ _ _ _ _ hr' hK
    · rename_i e; rw [if_neg e] at hK; exact hQ _ _ _ _ _ hr' hK
  | normal => exact hQ _ _ _ _ _ hr' hK
  | goto l => exact hQ _ _ _ _ _ hr' hK
  | ret => exact hQ _ _ _ _ _ hr' hK
  | panic c => exact hQ _ _ _ _ _ hr' hK
  | outgrown => exact hQ _ _ _ _ _ hr' hK
theorem AC_cond {z : Operand} {c d : Code} (t : Bool) (hz : ev σ z = .e (.d (.s (.bool t)))) (h1 : t = true → AC P N c K σ) (h2 : t = false → AC P N d K σ) : AC P N (.cond z c d) K σ := by
  intro x g a w Q hx hN hr hQ
  have hv := ev_ok hr z
  rw [hz] at hv
  have hv : a.eval z = .bool t := Rep.s_inv hv
  exact wp_cond_split hv (fun e => h1 e x g a w Q hx hN hr hQ) (fun e => h2 e x g a w Q hx hN hr hQ)
def loopK (J : Nat → St → Prop) (n : Nat) (σ : St) : Prop := ∃ n', n' < n ∧ J n' σ
theorem AC_loop {c : Code} (J : Nat → St → Prop) (n0 : Nat) (h0 : J n0 σ) (round : ∀ n σ, J n σ → ∀ K' : St → Prop, (∀ n' σ', n' < n → J n' σ' → K' σ') → AC P N c (thenK K' K) σ) : AC P N (.loop c) K σ := by
  intro x g a w Q hx hN hr hQ
  refine wp_loop_ghost (fun n a w => ∃ σ g, Rel x g σ a w ∧ J n σ) n0 ⟨σ, g, hr, h0⟩ ?_
  rintro n a w ⟨σ, g, hr, hJ⟩
  refine round n σ hJ (loopK J n) (fun n' σ' h1 h2 => ⟨n', h1, h2⟩) x g a w _ hx hN hr fun e σ' g' a' w' hr' hK => ?_
  cases e with
  | normal =>
    obtain ⟨n', hlt, hJ'⟩ := hK
    exact ⟨n', hlt, σ', g', hr', hJ'⟩
  | exit id => exact hQ _ _ _ _ _ hr' hK
  | goto l => exact hQ _ _ _ _ _ hr' hK
  | ret => exact hQ _ _ _ _ _ hr' hK
  | panic c => exact hQ _ _ _ _ _ hr' hK
  | outgrown => exact hQ _ _ _ _ _ hr' hK
theorem AC_region {id : Nat} {l : List Oper} (hc : chk N l.toArray = true) (h : aops P l.toArray (K .normal) l σ) : AC P N (.region id l.toArray false) K σ := by
  intro x g a w Q hx hN hr hQ
  subst hx hN
  refine wp_region_lit (aops_sound hc (fun σ' g' a' w' hr' hK => hQ _ _ _ _ _ hr' hK) l (fun o ho d hd => ?_) σ g a w hr h)
  obtain ⟨j, hj⟩ := List.mem_iff_getElem?.1 ho
  exact chk_spec hc (j := j) (o := o) (by simpa using hj) hd
theorem Rel.drew {x : Cx} {g : Gh} {a : Act} {w : World} (h : Rel x g σ a w) : Rel x g σ a w.drew :=
  (h.callS (g' := g) (r := .e .un) (v := undef) ((Below.refl w.heap.size w).drew) (fun _ _ _ => Iff.rfl) h.new trivial).1
theorem AC_draw {id : Nat} {l : List Oper} (hm : P.follows .mixedOrders = true) (hB : Region.lexB .any l.toArray = true) (hc : chk N l.toArray = true) (h : aqs P l.toArray (K .normal) l σ) : AC P N (.region id l.toArray true) K σ := by
  intro x g a w Q hx hN hr hQ
  simp only [Region.lexB, Bool.and_eq_true] at hB
  have hl := aLexQ_of_aqs hc l (fun o ho => by
    obtain ⟨j, hj⟩ := List.mem_iff_getElem?.1 ho
    exact ⟨j, by simpa using hj⟩) σ h
  have ha := aAnyQ_lex l 0 (Array.replicate l.toArray.size false) σ (by simp) (by simpa using hB.2) hl
  refine wp_region_any hm ?_
  have := wpAny_of_aAnyQ hx hN (fun σ' g' a' w' hr' hK => hQ _ _ _ _ _ hr' hK) _ _ _ g a w.drew hr.drew ha
  simpa using this
/-! ### seeing less -/
theorem AC_weak {c : Code} {σ' : St} (hw : ∀ (x : Cx) (g : Gh) (a : Act) (w : World), x.P = P → x.N = N → Rel x g σ a w → ∃ g', Rel x g' σ' a w) (h : AC P N c K σ') : AC P N c K σ := by
  intro x g a w Q hx hN hr hQ
  obtain ⟨g', hr'⟩ := hw x g a w hx hN hr
  exact h x g' a w Q hx hN hr' hQ
end
/-- slots may be forgotten, or seen more coarsely. -/
theorem Rel.setT {x : Cx} {g : Gh} {σ : St} {a : Act} {w : World} (h : Rel x g σ a w) (f : Nat → T) (hf : ∀ i v, RT x.B g w (σ.t i) v → RT x.B g w (f i) v) : Rel x g ⟨f, σ.b⟩ a w :=
  ⟨h.below, h.base, h.dfr, h.sz, fun i => hf i _ (h.tm i), h.old, h.new, h.bx, h.binj, h.bt, h.tinj, h.tlt⟩
/-- a nil slice in a slot may be taken for an empty one of the call's own. -/
theorem AC_nil {P : Program} {N : Nat} {K : Exit → St → Prop} {σ : St} {c : Code} (d e k : Nat) (i : Nat) (hi : σ.t i = .e (.d .nil)) (h : AC P N c K ((σ.sc (pNot d) pAll).put (some i) (.e (.own e k [] d)))) (hN : i < N) : AC P N c K σ := by
  refine AC_weak (fun x g a w hx hxN hr => ?_) h
  obtain ⟨g', h1, h2, h3⟩ := hr.nilTok d e k
  have hv : a.tmps.getD i undef = .slice none 0 0 := by
    have := hr.tm i
    rw [hi] at this
    have this : Rep g.S w .nil (a.tmps.getD i undef) := this
    generalize a.tmps.getD i undef = v at this
    cases this; rfl
  have hp := h2.put (y := .e (.own e k [] d)) h3 (some i) (fun d hd => by injection hd with hd; subst hd; rw [hxN]; exact hN)
  have he : a.put (some i) (.slice none 0 0) = a := by
    have hlt : i < a.tmps.size := by rw [hr.sz, hxN]; exact hN
    cases a with
    | mk tmps defers =>
      simp only [Act.put]
      congr 1
      apply Array.ext
      · simp
      · intro j h1 h2
        by_cases e : j = i
        · subst e
          simp only [Array.getElem_setIfInBounds_self]
          rw [Array.getD_eq_getD_getElem?, Array.getElem?_eq_getElem h2] at hv
          exact hv.symm
        · rw [Array.getElem_setIfInBounds_ne (by simpa using h2) (fun q => e q.symm)]
  rw [he] at hp
  exact ⟨g', hp⟩
/-- cells by rows. -/
def chunk (k : Nat) : Nat → List D → List (List D)
  | 0, _ => []
  | n + 1, l => l.take k :: chunk k n (l.drop k)
/-- a variable that is written no more: what it holds is data, its place a pointer to them. -/
def frE (id : Nat) (row : List C) : E → E
  | .bs i k n => if i = id then (if n * k ≤ row.length then .d (.sl k (chunk k n (row.map cD))) else .un) else .bs i k n
  | .bx i off => if i = id then .d (.pt ((row.drop off).map cD)) else .bx i off
  | y => y
def frT (id : Nat) (row : List C) : T → T
  | .e x => .e (frE id row x)
  | .tup xs => .tup (xs.map (frE id row))
  | .mb c x => .mb c (frE id row x)
def St.fr (σ : St) (id : Nat) (row : List C) : St := ⟨fun i => frT id row (σ.t i), fun i => if i = id then none else σ.b i⟩
theorem chunk_len (k : Nat) : ∀ (n : Nat) (l : List D), (chunk k n l).length = n
  | 0, _ => rfl
  | n + 1, l => by simp [chunk, chunk_len k n]
theorem chunk_at (k : Nat) : ∀ (n : Nat) (l : List D) (i : Nat), i < n → (chunk k n l)[i]? = some ((l.drop (i * k)).take k)
  | 0, _, _, h => by omega
  | n + 1, l, 0, _ => by simp [chunk]
  | n + 1, l, i + 1, h => by
    rw [chunk, List.getElem?_cons_succ, chunk_at k n _ i (by omega), List.drop_drop]
    congr 3
    rw [Nat.add_mul]; omega
theorem Rel.freeze {x : Cx} {g : Gh} {σ : St} {a : Act} {w : World} (h : Rel x g σ a w) (id : Nat) (row : List C) (hb : σ.b id = some row) : ∃ g', Rel x g' (σ.fr id row) a w := by
  obtain ⟨b1, b2, ty, us, b3, b4, b5, b6⟩ := h.bx id row hb
  have hlt : g.β id < w.heap.size := by
    rcases Nat.lt_or_ge (g.β id) w.heap.size with q | q
    · exact q
    · rw [Array.getElem?_eq_none q] at b3; cases b3
  have kp : Kp g.S (fun b o => g.S b o ∨ b = g.β id) w w := ⟨fun _ _ q => .inl q, fun _ _ _ => rfl⟩
  have ev : Ev pAll pAll g ⟨g.β, g.τ, fun b o => g.S b o ∨ b = g.β id⟩ w w := by
    refine ⟨kp, fun t _ => ⟨rfl, fun b hb' => ⟨rfl, fun o => ⟨fun q => q.elim (fun q => q) (fun q => ?_), .inl⟩⟩⟩, fun _ _ => rfl⟩
    exact absurd (by rw [hb', q]) (h.bt id t (by rw [hb]; rfl))
  have hid : ∀ y : E, scE pAll pAll y = y := by
    intro y
    cases y <;> simp [scE, pAll, ← pAll.eq_1, scC_all_map]
  have hE : ∀ y v, RE x.B g w y v → RE x.B ⟨g.β, g.τ, fun b o => g.S b o ∨ b = g.β id⟩ w (frE id row y) v := by
    intro y v hy
    have h0 := RE.ev ev hy
    rw [hid] at h0
    cases y with
    | bx i off =>
      simp only [frE]
      split
      · rename_i e
        subst e
        have hy : v = .pointer (some ⟨g.β i, off, none⟩) := hy
        subst hy
        have hd := (b5 : us.length = row.length)
        refine Rep.pt (fun j => us.getD (off + j) undef) (fun j d hj => ⟨.inr rfl, ?_⟩) (fun j d hj => ?_)
        · rw [List.getElem?_map, List.getElem?_drop] at hj
          cases hr : row[off + j]? with
          | none => rw [hr] at hj; cases hj
          | some c =>
            have hl : off + j < us.length := by rw [hd]; exact (List.getElem?_eq_some_iff.1 hr).1
            rw [getD_of (List.getElem?_eq_getElem hl)]
            simp only [World.cell?, b3]
            rw [if_neg (by simp)]
            simp [List.getElem?_eq_getElem hl]
        · rw [List.getElem?_map, List.getElem?_drop] at hj
          cases hr : row[off + j]? with
          | none => rw [hr] at hj; cases hj
          | some c =>
            rw [hr] at hj
            injection hj with hj
            subst hj
            have hl : off + j < us.length := by rw [hd]; exact (List.getElem?_eq_some_iff.1 hr).1
            rw [getD_of (List.getElem?_eq_getElem hl)]
            exact (cD_ok (b6 _ c _ hr (List.getElem?_eq_getElem hl))).mono kp
      · exact h0
    | bs i k n =>
      simp only [frE]
      split
      · rename_i e
        subst e
        split
        · rename_i hle
          obtain ⟨rfl, hn⟩ := hy
          have hd := (b5 : us.length = row.length)
          have hcl := chunk_len k n (row.map cD)
          have hat : ∀ (q j : Nat) (r : List D) (d : D), (chunk k n (row.map cD))[q]? = some r → r[j]? = some d → ∃ c, row[q * k + j]? = some c ∧ d = cD c := by
            intro q j r d hq hj
            have hqn : q < n := by rw [← hcl]; exact (List.getElem?_eq_some_iff.1 hq).1
            rw [chunk_at k n _ q hqn] at hq
            injection hq with hq
            subst hq
            rw [List.getElem?_take] at hj
            split at hj
            · rw [List.getElem?_drop, List.getElem?_map] at hj
              cases hr : row[q * k + j]? with
              | none => rw [hr] at hj; cases hj
              | some c => rw [hr] at hj; injection hj with hj; exact ⟨c, rfl, hj.symm⟩
            · cases hj
          have hrep : Rep (fun b o => g.S b o ∨ b = g.β i) w (.sl k (chunk k n (row.map cD))) (.slice (some ⟨g.β i, 0, none⟩) (chunk k n (row.map cD)).length n) := by
            refine Rep.sl (fun q j => us.getD (q * k + j) undef) (by rw [hcl]; exact Nat.le_refl _) hn (fun q r hq => ?_) (fun q j r d hq hj => ⟨.inr rfl, ?_⟩) (fun q j r d hq hj => ?_)
            · have hqn : q < n := by rw [← hcl]; exact (List.getElem?_eq_some_iff.1 hq).1
              rw [chunk_at k n _ q hqn] at hq
              injection hq with hq
              subst hq
              have : (q + 1) * k ≤ n * k := Nat.mul_le_mul_right _ hqn
              rw [Nat.add_mul, Nat.one_mul] at this
              simp only [List.length_take, List.length_drop, List.length_map]
              omega
            · obtain ⟨c, hc, -⟩ := hat q j r d hq hj
              have hl : q * k + j < us.length := by rw [hd]; exact (List.getElem?_eq_some_iff.1 hc).1
              rw [getD_of (List.getElem?_eq_getElem hl)]
              simp only [World.cell?, b3, Nat.zero_add]
              rw [if_neg (by simp)]
              simp [List.getElem?_eq_getElem hl]
            · obtain ⟨c, hc, rfl⟩ := hat q j r d hq hj
              have hl : q * k + j < us.length := by rw [hd]; exact (List.getElem?_eq_some_iff.1 hc).1
              rw [getD_of (List.getElem?_eq_getElem hl)]
              exact (cD_ok (b6 _ c _ hc (List.getElem?_eq_getElem hl))).mono kp
          rw [hcl] at hrep
          exact hrep
        · trivial
      · exact h0
    | d _ => exact h0
    | own _ _ _ _ => exact h0
    | ag _ => exact h0
    | un => trivial
  refine ⟨⟨g.β, g.τ, fun b o => g.S b o ∨ b = g.β id⟩, h.below, h.base, h.dfr, h.sz, fun i => ?_, fun b o hlt' => ?_, fun b o q => ?_, fun i r hr => ?_, fun i j hi hj => ?_, fun i tok hi => ?_, h.tinj, h.tlt⟩
  · have hi := h.tm i
    show RT _ _ _ (frT id row (σ.t i)) _
    generalize σ.t i = y at hi
    cases y with
    | e y => exact hE y _ hi
    | tup xs =>
      obtain ⟨vs, hv, v1, v2⟩ := hi
      refine ⟨vs, hv, by simp [v1], fun j y u hy hu => ?_⟩
      rw [List.getElem?_map] at hy
      cases hj : xs[j]? with
      | none => rw [hj] at hy; cases hy
      | some z => rw [hj] at hy; injection hy with hy; subst hy; exact hE z u (v2 j z u hj hu)
    | mb c y => exact ⟨fun hc => hE y _ (hi.1 hc), hi.2⟩
  · rw [← h.old b o hlt']
    exact ⟨fun q => q.elim (fun q => q) (fun q => by omega), .inl⟩
  · rcases q with q | q
    · exact h.new b o q
    · omega
  · simp only [St.fr] at hr
    split at hr
    · cases hr
    · rename_i e
      obtain ⟨c1, c2, ty', vs, c3, c4, c5⟩ := h.bx i r hr
      have hne : g.β i ≠ g.β id := fun q => e (h.binj i id (by rw [hr]; rfl) (by rw [hb]; rfl) q)
      have hev := c5.ev ev
      rw [scC_all_map] at hev
      exact ⟨c1, fun o q => q.elim (c2 o) hne, ty', vs, c3, c4, hev⟩
  · have key : ∀ i, ((σ.fr id row).b i).isSome → (σ.b i).isSome := by
      intro i hi
      simp only [St.fr] at hi
      split at hi
      · cases hi
      · exact hi
    exact h.binj i j (key i hi) (key j hj)
  · refine h.bt i tok ?_
    simp only [St.fr] at hi
    split at hi
    · cases hi
    · exact hi
theorem AC_fr {P : Program} {N : Nat} {K : Exit → St → Prop} {σ : St} {c : Code} (id : Nat) (row : List C) (hb : σ.b id = some row) (h : AC P N c K (σ.fr id row)) : AC P N c K σ :=
  AC_weak (fun x g a w _ _ hr => hr.freeze id row hb) h
/-! ### the answer -/
def posT : List Nat → Nat → Option Nat
  | [], _ => none
  | u :: l, t => if t = u then some 0 else (posT l t).map (· + 1)
theorem posT_some : ∀ (l : List Nat) (t i : Nat), posT l t = some i → l[i]? = some t
  | [], _, _, h => by cases h
  | u :: l, t, i, h => by
    unfold posT at h
    split at h
    · rename_i e; injection h with h; subst h e; rfl
    · obtain ⟨j, hj, rfl⟩ := Option.map_eq_some_iff.1 h
      simpa using posT_some l t j hj
def cnC (l : List Nat) : C → C
  | .d x => .d x
  | .own e k rows t => match posT l t with
    | some i => .own e k rows i
    | none => .d (.sl k rows)
def cnE (l : List Nat) : E → E
  | .d x => .d x
  | .own e k rows t => match posT l t with
    | some i => .own e k rows i
    | none => .d (.sl k rows)
  | .ag xs => .ag (xs.map (cnC l))
  | _ => .un
def cnT (l : List Nat) : T → T
  | .e x => .e (cnE l x)
  | .tup xs => .tup (xs.map (cnE l))
  | .mb c x => .mb c (cnE l x)
theorem cnE_ok {B : Nat} {g : Gh} {w : World} (l : List Nat) {y : E} {v : Value} (h : RE B g w y v) : RE B ⟨g.β, fun i => (l[i]?).bind g.τ, g.S⟩ w (cnE l y) v := by
  have hO : ∀ e k rows t i v, posT l t = some i → OwnR B g w e k rows t v → OwnR B ⟨g.β, fun i => (l[i]?).bind g.τ, g.S⟩ w e k rows i v := by
    intro e k rows t i v hp ho
    obtain ⟨xs, o1, o2, o3⟩ := ho
    refine ⟨xs, o1, ?_, o3⟩
    rw [o2]
    simp only [posT_some l t i hp, Option.bind_some]
  have hC : ∀ y v, RC B g w y v → RC B ⟨g.β, fun i => (l[i]?).bind g.τ, g.S⟩ w (cnC l y) v := by
    intro y v hy
    cases y with
    | d x => exact hy
    | own e k rows t =>
      simp only [cnC]
      split
      · rename_i i hp; exact hO e k rows t i v hp hy
      · exact OwnR.rep (g := g) (tok := t) (e := e) hy
  cases y with
  | d x => exact h
  | own e k rows t =>
    simp only [cnE]
    split
    · rename_i i hp; exact hO e k rows t i v hp h
    · exact OwnR.rep (g := g) (tok := t) (e := e) h
  | bx i o => trivial
  | bs i k n => trivial
  | ag xs =>
    obtain ⟨us, rfl, hus⟩ := h
    refine ⟨us, rfl, by simp [hus.1], fun j y u hy hu => ?_⟩
    rw [List.getElem?_map] at hy
    cases hj : xs[j]? with
    | none => rw [hj] at hy; cases hy
    | some z => rw [hj] at hy; injection hy with hy; subst hy; exact hC z u (hus.2 j z u hj hu)
  | un => trivial
theorem cnT_ok {B : Nat} {g : Gh} {w : World} (l : List Nat) {y : T} {v : Value} (h : RT B g w y v) : RT B ⟨g.β, fun i => (l[i]?).bind g.τ, g.S⟩ w (cnT l y) v := by
  cases y with
  | e x => exact cnE_ok l h
  | tup xs =>
    obtain ⟨us, rfl, h1, h2⟩ := h
    refine ⟨us, rfl, by simp [h1], fun j y u hy hu => ?_⟩
    rw [List.getElem?_map] at hy
    cases hj : xs[j]? with
    | none => rw [hj] at hy; cases hy
    | some z => rw [hj] at hy; injection hy with hy; subst hy; exact cnE_ok l (h2 j z u hj hu)
  | mb c x => exact ⟨fun hc => cnE_ok l (h.1 hc), h.2⟩
def aRv (P : Program) (σ : St) : ResultVar → Option (Prop × E)
  | .tmp t => some (oblT (σ.t t), bodyT (σ.t t))
  | .cell t ty => match aLoad P σ ty (bodyT (σ.t t)) with
    | some (ob, y) => some (oblT (σ.t t) ∧ ob, y)
    | none => none
def aRvs (P : Program) (σ : St) : List ResultVar → Option (Prop × List E)
  | [] => some (True, [])
  | r :: l => match aRv P σ r, aRvs P σ l with
    | some (ob, y), some (ob', ys) => some (ob ∧ ob', y :: ys)
    | _, _ => none
def mkRes : List E → T
  | [y] => .e y
  | ys => .tup ys
def rvS (tmps : Array Value) : ResultVar → Sem Value
  | .tmp t => pure (tmps.getD t undef)
  | .cell p t => do loadVar t (← asAddr (tmps.getD p undef))
theorem results_eq (fn : Func) (tmps : Array Value) : results fn tmps = (do let vs ← fn.results.mapM (rvS tmps); pure (if h : vs.size = 1 then vs[0] else .tuple vs)) := by
  unfold results
  congr 1
theorem aRv_ok {x : Cx} {g : Gh} {σ : St} {a : Act} {w : World} (hr : Rel x g σ a w) {rv : ResultVar} {ob : Prop} {y : E} (h : aRv x.P σ rv = some (ob, y)) (ho : ob) :
    ∃ v, (rvS a.tmps rv).run x.P w = .ok v w ∧ RE x.B g w y v := by
  unfold aRv at h
  split at h
  · rename_i t
    injection h with h; injection h with e1 e2
    subst e1 e2
    exact ⟨_, rfl, body_ok (hr.tm t) ho⟩
  · rename_i t ty
    split at h
    · rename_i ob' y' h'
      injection h with h; injection h with e1 e2
      subst e1 e2
      have hb := body_ok (hr.tm t) ho.1
      obtain ⟨r, r1, r2⟩ := aLoad_ok h' ho.2 hr hb
      refine ⟨r, ?_, r2⟩
      have hp : ∃ ad, a.tmps.getD t undef = .pointer (some ad) := by
        generalize a.tmps.getD t undef = v at hb
        unfold aLoad at h'
        split at h'
        · rename_i row hrow
          rw [hrow] at hb
          have hb : Rep g.S w (.pt row) v := hb
          cases hb
          exact ⟨_, rfl⟩
        · rename_i id off hrow
          rw [hrow] at hb
          exact ⟨_, hb⟩
        · cases h'
      obtain ⟨ad, had⟩ := hp
      rw [had] at r1
      simp only [rvS, had, asAddr, Sem.run_bind, Sem.run_pure, Result.andThen_ok]
      simpa [Instr.loadAt, Instr.sureAddr] using r1
    · cases h
theorem aRvs_ok {x : Cx} {g : Gh} {σ : St} {a : Act} {w : World} (hr : Rel x g σ a w) : ∀ (l : List ResultVar) (ob : Prop) (ys : List E), aRvs x.P σ l = some (ob, ys) → ob →
    ∃ vs : List Value, (l.mapM (rvS a.tmps) : Sem (List Value)).run x.P w = .ok vs w ∧ vs.length = ys.length ∧ ∀ (j : Nat) (y : E) (u : Value), ys[j]? = some y → vs[j]? = some u → RE x.B g w y u
  | [], ob, ys, h, ho => by
    injection h with h; injection h with e1 e2
    subst e2
    exact ⟨[], rfl, rfl, fun j y u q => by simp at q⟩
  | r :: l, ob, ys, h, ho => by
    unfold aRvs at h
    split at h
    · rename_i ob1 y1 ob2 ys2 h1 h2
      injection h with h; injection h with e1 e2
      subst e1 e2
      obtain ⟨v, v1, v2⟩ := aRv_ok hr h1 ho.1
      obtain ⟨vs, w1, w2, w3⟩ := aRvs_ok hr l _ _ h2 ho.2
      refine ⟨v :: vs, ?_, by simp [w2], fun j y u q r => ?_⟩
      · rw [List.mapM_cons, Sem.run_bind, v1]
        simp only [Result.andThen_ok, Sem.run_bind, w1, Sem.run_pure]
      · cases j with
        | zero => simp at q r; subst q r; exact v2
        | succ j => exact w3 j y u (by simpa using q) (by simpa using r)
    · cases h
/-- how a body must end. -/
def retK (P : Program) (rs : List ResultVar) (Rs : T → Prop) : Exit → St → Prop
  | .normal, σ | .ret, σ => ∃ (l : List Nat) (ob : Prop) (ys : List E), aRvs P σ rs = some (ob, ys) ∧ ob ∧ l.Nodup ∧ Rs (cnT l (mkRes ys))
  | _, _ => False
def St.init (ars : List A) : St := ⟨fun i => match ars[i]? with
  | some (.d x) => .e (.d x)
  | some (.ag xs) => .e (.ag (xs.map .d))
  | none => .e .un, fun _ => none⟩
theorem FCon.intro {P : Program} {f : FuncId} {fn : Func} {c : Code} (hf : P.funcs[f]? = some fn) (hname : (fn.name == "runtime.NumGoroutine") = false) (hb : fn.body = some c) {N : Nat} (hN : fn.ntmps = N) {rs : List ResultVar} (hrs : fn.results = rs.toArray) {ars : List A} (hlen : ars.length ≤ N) {Rs : T → Prop}
    (h : AC P N c (retK P rs Rs) (St.init ars)) : FCon P f ars Rs := by
  refine ⟨fun vs w => ?_, fun w S vs hS hl hv => calls_of_wp hf hb ?_⟩
  · have hname' : ¬ fn.name = "runtime.NumGoroutine" := by simpa using hname
    have hbn : ¬ fn.body = none := by rw [hb]; simp
    simp [callFunc, hf, hname', hbn]
  · refine h ⟨P, N, w.heap.size, S, w⟩ ⟨fun _ => 0, fun _ => none, S⟩ _ w _ rfl rfl ?_ ?_
    · refine ⟨Below.refl _ _, Nat.le_refl _, rfl, by simp [hN, hl]; omega, fun i => ?_, fun _ _ _ => Iff.rfl, hS, fun id row q => (by cases q), fun i j q => (by cases q), fun i tok q => (by cases q), fun i j b q => (by cases q), fun i b q => (by cases q)⟩
      simp only [St.init]
      cases ha : ars[i]? with
      | none => trivial
      | some b =>
        have hlt : i < vs.length := by rw [hl]; exact (List.getElem?_eq_some_iff.1 ha).1
        have hg : (vs.toArray ++ Array.replicate (fn.ntmps - vs.toArray.size) undef).getD i undef = vs[i] := by
          rw [Array.getD_eq_getD_getElem?, Array.getElem?_append_left (by simpa using hlt)]
          simp [List.getElem?_eq_getElem hlt]
        have hri := hv i b vs[i] ha (List.getElem?_eq_getElem hlt)
        rw [hg]
        cases b with
        | d x => exact hri
        | ag xs =>
          obtain ⟨us, hu, hus⟩ := hri
          exact ⟨us, hu, RCs.ofD hus⟩
    · intro e σ' g' a' w' hr' hK
      have key : (∃ (l : List Nat) (ob : Prop) (ys : List E), aRvs P σ' rs = some (ob, ys) ∧ ob ∧ l.Nodup ∧ Rs (cnT l (mkRes ys))) → a'.defers = [] ∧ ∃ v, (results fn a'.tmps).run P w' = .ok v w' ∧
          (∃ v' g' r, Ending.returned v = .returned v' ∧ Below w.heap.size w w' ∧ (∀ b o, b < w.heap.size → (Gh.S g' b o ↔ S b o)) ∧ (∀ b o, g'.S b o → b < w'.heap.size) ∧ (∀ i j b, g'.τ i = some b → g'.τ j = some b → i = j) ∧ (∀ i b, g'.τ i = some b → w.heap.size ≤ b ∧ b < w'.heap.size) ∧ Rs r ∧ RT w.heap.size g' w' r v') := by
        rintro ⟨l, ob, ys, h1, ho, hnd, hR⟩
        obtain ⟨vs', w1, w2, w3⟩ := aRvs_ok hr' _ _ _ h1 ho
        have hRT : ∃ v, (results fn a'.tmps).run P w' = .ok v w' ∧ RT w.heap.size g' w' (mkRes ys) v := by
          rw [results_eq, Array.mapM_eq_mapM_toList]
          have w1 : (List.mapM (rvS a'.tmps) fn.results.toList).run P w' = .ok vs' w' := by rw [hrs]; exact w1
          simp only [Sem.run_bind, Sem.run_map, w1, Result.andThen_ok, Sem.run_pure]
          cases ys with
          | nil =>
            have : vs' = [] := List.eq_nil_of_length_eq_zero (by simpa using w2)
            subst this
            exact ⟨_, rfl, [], rfl, rfl, fun j y u q => by simp at q⟩
          | cons y ys =>
            cases ys with
            | nil =>
              cases vs' with
              | nil => simp at w2
              | cons v vs'' =>
                have : vs'' = [] := List.eq_nil_of_length_eq_zero (by simpa using w2)
                subst this
                exact ⟨_, by simp, w3 0 y v rfl rfl⟩
            | cons z zs =>
              refine ⟨.tuple vs'.toArray, ?_, vs', rfl, w2, w3⟩
              have : ¬ vs'.toArray.size = 1 := by simp [w2]
              simp [w2]
        obtain ⟨v, v1, v2⟩ := hRT
        refine ⟨hr'.dfr, v, v1, v, ⟨g'.β, fun i => (l[i]?).bind g'.τ, g'.S⟩, _, rfl, hr'.below, hr'.old, hr'.new, fun i j b hi hj => ?_, fun i b hi => ?_, hR, cnT_ok l v2⟩
        · simp only at hi hj
          obtain ⟨t1, q1, q2⟩ := Option.bind_eq_some_iff.1 hi
          obtain ⟨t2, q3, q4⟩ := Option.bind_eq_some_iff.1 hj
          have := hr'.tinj t1 t2 b q2 q4
          subst this
          obtain ⟨l1, e1⟩ := List.getElem?_eq_some_iff.1 q1
          obtain ⟨l2, e2⟩ := List.getElem?_eq_some_iff.1 q3
          exact (List.getElem_inj hnd).1 (e1.trans e2.symm)
        · simp only at hi
          obtain ⟨t1, q1, q2⟩ := Option.bind_eq_some_iff.1 hi
          exact hr'.tlt t1 b q2
      cases e with
      | normal => exact key hK
      | ret => exact key hK
      | exit id => exact hK.elim
      | goto l => exact hK.elim
      | panic c => exact hK.elim
      | outgrown => exact hK.elim
end Go.Proofs.Ythmedgipfdoneaa

/- The engine, fourteenth part: how a proof steps through code. -/
namespace Go.Proofs.Ythmedgipfdoneaa
set_option linter.unusedVariables false
set_option linter.unusedSimpArgs false
open Go.RowKit
theorem mixed : Try.prog.follows .mixedOrders = true := by kernel_rfl
section
variable {P : Program} {N : Nat} {K : Exit → St → Prop} {σ : St}
/-- what stands behind a piece of code. -/
def seqK (P : Program) (N : Nat) (d : Code) (K : Exit → St → Prop) : Exit → St → Prop
  | .normal, σ => AC P N d K σ
  | e, σ => K e σ
theorem AC_sq {c d : Code} (h : AC P N c (seqK P N d K) σ) : AC P N (.seq c d) K σ := by
  refine AC_seq fun K' hK' => ?_
  intro x g a w Q hx hN hr hQ
  refine h x g a w Q hx hN hr fun e σ' g' a' w' hr' hK => hQ e σ' g' a' w' hr' ?_
  cases e with
  | normal => exact hK' σ' hK
  | exit id => exact hK
  | goto l => exact hK
  | ret => exact hK
  | panic c => exact hK
  | outgrown => exact hK
theorem K_sn {d : Code} (h : AC P N d K σ) : seqK P N d K .normal σ := h
theorem K_se {d : Code} {i : Nat} (h : K (.exit i) σ) : seqK P N d K (.exit i) σ := h
theorem K_sr {d : Code} (h : K .ret σ) : seqK P N d K .ret σ := h
theorem K_bn {i : Nat} (h : K .normal σ) : blockK i K .normal σ := h
theorem K_br {i : Nat} (h : K .ret σ) : blockK i K .ret σ := h
theorem K_be {i : Nat} (h : K .normal σ) : blockK i K (.exit i) σ := by simp only [blockK, if_true]; exact h
theorem K_bo {i j : Nat} (hn : (j == i) = false) (h : K (.exit j) σ) : blockK i K (.exit j) σ := by
  have : j ≠ i := by simpa using hn
  simp only [blockK, if_neg this]; exact h
theorem K_tn {K' : St → Prop} (h : K' σ) : thenK K' K .normal σ := h
theorem K_te {K' : St → Prop} {i : Nat} (h : K (.exit i) σ) : thenK K' K (.exit i) σ := h
theorem K_tr {K' : St → Prop} (h : K .ret σ) : thenK K' K .ret σ := h
/-- the answer; l: the names of the call's own slices that go with it. -/
def retM (P : Program) (rs : List ResultVar) (Rs : T → Prop) (l : List Nat) (σ : St) : Prop := match aRvs P σ rs with
  | some (ob, ys) => ob ∧ Rs (cnT l (mkRes ys))
  | none => False
theorem K_ret {rs : List ResultVar} {Rs : T → Prop} (l : List Nat) (hl : l.Nodup) (h : retM P rs Rs l σ) : retK P rs Rs .ret σ := by
  unfold retM at h
  split at h
  · rename_i ob ys h1
    exact ⟨l, ob, ys, h1, h.1, hl, h.2⟩
  · exact h.elim
theorem K_end {rs : List ResultVar} {Rs : T → Prop} (l : List Nat) (hl : l.Nodup) (h : retM P rs Rs l σ) : retK P rs Rs .normal σ := K_ret (σ := σ) l hl h
/-- a branch. -/
def condT (y : T) (A B : Prop) : Prop := match y with
  | .e (.d (.s (.bool t))) => (t = true → A) ∧ (t = false → B)
  | _ => False
theorem AC_if {z : Operand} {c d : Code} (h : condT (ev σ z) (AC P N c K σ) (AC P N d K σ)) : AC P N (.cond z c d) K σ := by
  unfold condT at h
  split at h
  · rename_i t ht; exact AC_cond t ht h.1 h.2
  · exact h.elim
theorem init_t (ars : List A) (i : Nat) : (St.init ars).t i = match ars[i]? with
  | some (.d x) => .e (.d x)
  | some (.ag xs) => .e (.ag (xs.map .d))
  | none => .e .un := rfl
theorem init_b (ars : List A) (i : Nat) : (St.init ars).b i = none := rfl
theorem put_t (d : Nat) (y : T) (i : Nat) : (σ.put (some d) y).t i = if i = d then y else σ.t i := rfl
theorem put_b (d : Nat) (y : T) : (σ.put (some d) y).b = σ.b := rfl
theorem put_n (y : T) : σ.put none y = σ := rfl
theorem sc_t (p q : Nat → Bool) (i : Nat) : (σ.sc p q).t i = scT p q (σ.t i) := rfl
theorem sc_b (p q : Nat → Bool) (i : Nat) : (σ.sc p q).b i = if q i = true then (σ.b i).map (·.map (scC p)) else none := rfl
theorem setB_t (d : Nat) (row : List C) (i : Nat) : (σ.setB d row).t i = σ.t i := rfl
theorem setB_b (d : Nat) (row : List C) (i : Nat) : (σ.setB d row).b i = if i = d then some row else σ.b i := rfl
theorem fr_t (d : Nat) (row : List C) (i : Nat) : (σ.fr d row).t i = frT d row (σ.t i) := rfl
theorem fr_b (d : Nat) (row : List C) (i : Nat) : (σ.fr d row).b i = if i = d then none else σ.b i := rfl
theorem ev_t (i : Nat) : ev σ (.tmp i) = σ.t i := rfl
theorem ev_i (k : IntKind) (n : Int) : ev σ (.const (.int k n)) = .e (.d (.s (.int k n))) := rfl
theorem ev_b (b : Bool) : ev σ (.const (.bool b)) = .e (.d (.s (.bool b))) := rfl
theorem ev_s (s : ByteArray) : ev σ (.const (.string s)) = .e (.d (.s (.string s))) := rfl
theorem ev_nil : ev σ (.const (.slice none 0 0)) = .e (.d .nil) := rfl
theorem ev_np : ev σ (.const (.pointer none)) = .e (.d .np) := rfl
theorem ev_f (f : FuncId) : ev σ (.func f) = .e (.d (.fn f [])) := rfl
theorem pAll_i (i : Nat) : pAll i = true := rfl
theorem pNot_i (d i : Nat) : pNot d i = (i != d) := rfl
theorem pMod_i (d i : Nat) : pMod d i = (i % 1000 != d) := rfl
end
theorem bnil (s : ByteArray) : (s.toList == ByteArray.toList ⟨#[]⟩) = s.toList.isEmpty := by
  have : ByteArray.toList ⟨#[]⟩ = [] := by kernel_rfl
  rw [this]
  cases s.toList <;> rfl
/-- a call, its arguments known. -/
def CallG (P : Program) (f : FuncId) (ars : List A) (dst : Option Tmp) (K : St → Prop) (σ : St) : Prop := ∃ d Rs, dst = some d ∧ FCon P f ars Rs ∧ ∀ r, Rs r → K ((σ.sc (pMod d) pAll).put (some d) (rnT d r))
def callM (P : Program) (dst : Option Tmp) (K : St → Prop) (σ : St) : Option (Prop × FuncId × List A) → Prop
  | some (ob, f, ars) => ob ∧ CallG P f ars dst K σ
  | none => False
theorem ACall_go {P : Program} {σ : St} {o : Oper} {K : St → Prop} (h : callM P o.dst K σ (aCallee σ o.op)) : ACall P σ o K := by
  unfold callM at h
  split at h
  · rename_i ob f ars hc
    obtain ⟨ho, d, Rs, hd, hF, hK⟩ := h
    exact ⟨d, ob, f, ars, Rs, hd, hc, ho, hF, hK⟩
  · exact h.elim
theorem CallG_mk {P : Program} {f : FuncId} {ars : List A} {d : Tmp} {K : St → Prop} {σ : St} {Rs : T → Prop} (hF : FCon P f ars Rs) (h : ∀ r, Rs r → K ((σ.sc (pMod d) pAll).put (some d) (rnT d r))) : CallG P f ars (some d) K σ := ⟨d, Rs, rfl, hF, h⟩
/-- a call in a region that draws its order. -/
def CallQ (P : Program) (f : FuncId) (ars : List A) (c : Bool) (ob : Prop) (wr : T → T) (σ : St) (dst : Option Tmp) (K : St → Prop) : Prop := ∃ r, (c = true → ob ∧ FCon P f ars (· = r)) ∧ K (σ.put dst (wr (slT r)))
def callQM (P : Program) (dst : Option Tmp) (c : Bool) (wr : T → T) (σ : St) (K : St → Prop) : Option (Prop × FuncId × List A) → Prop
  | some (ob, f, ars) => dst.isSome = true ∧ CallQ P f ars c ob wr σ dst K
  | none => c = false ∧ K (σ.put dst (wr (.e .un)))
theorem ACallQ_go {P : Program} {σ : St} {o : Oper} {c : Bool} {wr : T → T} {K : St → Prop} (h : callQM P o.dst c wr σ K (aCallee σ o.op)) : ACallQ P σ o c wr K := by
  unfold callQM at h
  split at h
  · rename_i ob f ars hc
    obtain ⟨hd, r, hF, hK⟩ := h
    obtain ⟨d, hd⟩ := Option.isSome_iff_exists.1 hd
    exact ⟨slT r, fun q => ⟨d, ob, f, ars, r, hd, hc, (hF q).1, (hF q).2, rfl⟩, hK⟩
  · exact ⟨_, fun q => (by rw [h.1] at q; cases q), h.2⟩
/-- under a guard that is false nothing is asked. -/
theorem CallQ_no {P : Program} {f : FuncId} {ars : List A} {ob : Prop} {wr : T → T} {σ : St} {dst : Option Tmp} {K : St → Prop} (h : K (σ.put dst (wr (.e .un)))) : CallQ P f ars false ob wr σ dst K := ⟨.e .un, fun q => (by cases q), h⟩
theorem CallQ_mk {P : Program} {f : FuncId} {ars : List A} {c : Bool} {ob : Prop} {wr : T → T} {σ : St} {dst : Option Tmp} {K : St → Prop} {r : T} (hF : FCon P f ars (· = r)) (ho : c = true → ob) (h : K (σ.put dst (wr (slT r)))) : CallQ P f ars c ob wr σ dst K := ⟨r, fun hc => ⟨ho hc, hF⟩, h⟩
/-- the same where the contract holds under the guard alone. -/
theorem CallQ_gd {P : Program} {f : FuncId} {ars : List A} {c : Bool} {ob : Prop} {wr : T → T} {σ : St} {dst : Option Tmp} {K : St → Prop} (r : T) (hF : c = true → FCon P f ars (· = r)) (ho : c = true → ob) (h : K (σ.put dst (wr (slT r)))) : CallQ P f ars c ob wr σ dst K := ⟨r, fun hc => ⟨ho hc, hF hc⟩, h⟩
theorem getD_map {α : Type} (enc : α → List D) (xs : List α) (k : Nat) (h : k < xs.length) : (xs.map enc).getD k [] = enc xs[k] := by
  rw [List.getD_eq_getElem?_getD, List.getElem?_map, List.getElem?_eq_getElem h]; rfl
/-- a slice is no longer than memory. -/
theorem AC_len {P : Program} {N : Nat} {K : Exit → St → Prop} {σ : St} {c : Code} (i : Nat) {k : Nat} {rows : List (List D)} (hi : rowsE (bodyT (σ.t i)) = some (k, rows)) (ho : oblT (σ.t i)) (h : rows.length ≤ 9223372036854775807 → AC P N c K σ) : AC P N c K σ := by
  intro x g a w Q hx hN hr hQ
  refine h ?_ x g a w Q hx hN hr hQ
  obtain ⟨_, _, _, h1, h2⟩ := (rowsE_ok hi (body_ok (hr.tm i) ho)).sl_shape
  unfold maxLen at h2
  omega
end Go.Proofs.Ythmedgipfdoneaa

/- The engine: the rules that step; regions that draw their order, without effects. -/
namespace Go.Proofs.Ythmedgipfdoneaa
set_option linter.unusedVariables false
set_option linter.unusedSimpArgs false
open Go.RowKit
/-- operations with an effect that do not look at what floats. -/
def pivB : Op → Bool
  | .alloc _ => true
  | .box _ _ => true
  | .makeSlice _ _ _ => true
  | .call ⟨.builtin .append, _, _⟩ => true
  | _ => false
/-! the rules that step: they do not open what is still to come. -/
theorem aops_nil {P : Program} {ops : Array Oper} {K : St → Prop} {σ : St} : aops P ops K [] σ = K σ := rfl
theorem aops_cons {P : Program} {ops : Array Oper} {K : St → Prop} {σ : St} {o : Oper} {l : List Oper} : aops P ops K (o :: l) σ = astep P ops o σ (aops P ops K l) := rfl
theorem aqs_nil {P : Program} {ops : Array Oper} {K : St → Prop} {σ : St} : aqs P ops K [] σ = K σ := rfl
theorem aqs_cons {P : Program} {ops : Array Oper} {K : St → Prop} {σ : St} {o : Oper} {l : List Oper} : aqs P ops K (o :: l) σ = aqst P ops o σ (aqs P ops K l) := rfl
/-- a region that draws its order, without effects. -/
theorem AC_drawG {P : Program} {N : Nat} {K : Exit → St → Prop} {id : Nat} {l : List Oper} {σ : St} (hm : P.follows .mixedOrders = true) (hq : (l.all fun o => !pivB o.op) = true) (hB : Region.lexB .any l.toArray = true) (hc : chk N l.toArray = true)
    (h : aqs P l.toArray (K .normal) l σ) : AC P N (.region id l.toArray true) K σ := AC_draw hm hB hc h
end Go.Proofs.Ythmedgipfdoneaa
