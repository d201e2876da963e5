/- The engine, ninth part: operations that make or change memory, under one name. -/
import Derived.Test.YtokjkmibnjfkaaaAbH
namespace Go.Proofs.Ytokjkmibnjfkaaa
set_option linter.unusedVariables false
set_option linter.unusedSimpArgs false
open Go.RowKit
/-- rows of a literal slice. -/
def aRows (σ : St) (k : Nat) : Nat → List (Nat × Operand) → Option (Prop × List (List D))
  | _, [] => some (True, [])
  | j, (i, x) :: rest => match cellsE (bodyT (ev σ x)) with
    | some xs => match aRows σ k (j + 1) rest with
      | some (ob, rs) => some (oblT (ev σ x) ∧ i = j ∧ xs.length = k ∧ ob, xs.map cD :: rs)
      | none => none
    | none => none
theorem aRows_ok {x : Cx} {g : Gh} {σ : St} {a : Act} {w : World} (hr : Rel x g σ a w) {k : Nat} :
    ∀ (parts : List (Nat × Operand)) (j : Nat) (ob : Prop) (rs : List (List D)), aRows σ k j parts = some (ob, rs) → ob → ∀ (cs : Array Value), cs.size = (j + parts.length) * k →
      ∃ cs' vals, Instr.fill (fun i => some (i * k, k)) cs (parts.map fun p => (p.1, a.eval p.2)) = some cs' ∧ cs'.toList = cs.toList.take (j * k) ++ vals ∧ RepRows g.S w k rs vals ∧ rs.length = parts.length
  | [], j, ob, rs, h, ho, cs, hcs => by
    injection h with h; injection h with e1 e2
    subst e2
    exact ⟨cs, [], rfl, by rw [List.append_nil, List.take_of_length_le (by rw [Array.length_toList, hcs]; simp)], ⟨by simp, by simp, by simp, by simp⟩, rfl⟩
  | (i, y) :: rest, j, ob, rs, h, ho, cs, hcs => by
    unfold aRows at h
    split at h
    · rename_i xs hx
      split at h
      · rename_i ob' rs' h'
        injection h with h; injection h with e1 e2
        subst e1 e2
        obtain ⟨o1, rfl, o3, o4⟩ := ho
        have hb := cellsE_ok hx (body_ok (ev_ok hr y) o1)
        have hvl : (a.eval y).cells.toList.length = k := by rw [hb.1, o3]
        have hvl' : (a.eval y).cells.size = k := by rw [← Array.length_toList]; exact hvl
        simp only [List.length_cons] at hcs
        have hle : i * k + k ≤ cs.size := by
          rw [hcs, show i * k + k = (i + 1) * k by rw [Nat.add_mul, Nat.one_mul]]; exact Nat.mul_le_mul_right _ (by omega)
        have hll : (lay cs.toList (i * k) (a.eval y).cells.toList).length = cs.size := by
          unfold lay
          simp only [List.length_append, List.length_take, List.length_drop, Array.length_toList, hvl']
          omega
        obtain ⟨cs', vals, r1, r2, r3, r4⟩ := aRows_ok hr rest (i + 1) ob' rs' h' o4 (lay cs.toList (i * k) (a.eval y).cells.toList).toArray (by rw [List.size_toArray, hll, hcs]; congr 1; omega)
        refine ⟨cs', (a.eval y).cells.toList ++ vals, ?_, ?_, ?_, by simp [r4]⟩
        · rw [List.map_cons, fill_step (v := a.eval y) rfl hvl' hle]
          exact r1
        · rw [r2]
          unfold lay
          have t1 : (cs.toList.take (i * k)).length = i * k := by rw [List.length_take, Array.length_toList]; omega
          have t2 : (cs.toList.take (i * k) ++ (a.eval y).cells.toList).length = (i + 1) * k := by rw [List.length_append, t1, hvl, Nat.add_mul, Nat.one_mul]
          rw [← t2]
          simp only [List.toList_toArray]
          rw [List.take_left, List.append_assoc]
        · have hone : RepRows g.S w k [xs.map cD] (a.eval y).cells.toList := by
            refine ⟨by simp [hvl'], fun q row hq => ?_, hb.one, fun q l row d hq hl => ?_⟩
            · cases q with
              | zero => simp at hq; subst hq; simp [o3]
              | succ q => simp at hq
            · cases q with
              | zero =>
                simp at hq
                subst hq
                rw [List.getElem?_map] at hl
                cases hc : xs[l]? with
                | none => rw [hc] at hl; cases hl
                | some c =>
                  rw [hc] at hl
                  injection hl with hl
                  subst hl
                  have hlt : l < (a.eval y).cells.toList.length := by rw [hb.1]; exact (List.getElem?_eq_some_iff.1 hc).1
                  refine ⟨_, by rw [Nat.zero_mul, Nat.zero_add]; exact List.getElem?_eq_getElem hlt, cD_ok (hb.2 l c _ hc (List.getElem?_eq_getElem hlt))⟩
              | succ q => simp at hq
          exact hone.append r3
      · cases h
    · cases h
/-- rows of what is appended. -/
def rowsK (k : Nat) : E → Option (Prop × List (List D))
  | .d .nil => some (True, [])
  | .d (.sl k' rows) => some (k' = k, rows)
  | .own _ k' rows _ => some (k' = k, rows)
  | _ => none
theorem rowsK_ok {k : Nat} {x : E} {ob : Prop} {rows : List (List D)} (h : rowsK k x = some (ob, rows)) (ho : ob) {B : Nat} {g : Gh} {w : World} {u : Value} (hu : RE B g w x u) : Rep g.S w (.sl k rows) u := by
  unfold rowsK at h
  split at h
  · injection h with h; injection h with e1 e2
    subst e2
    cases hu
    exact .sl0 (by decide)
  · injection h with h; injection h with e1 e2
    subst e1 e2
    obtain rfl := ho
    exact hu
  · injection h with h; injection h with e1 e2
    subst e1 e2
    obtain rfl := ho
    exact OwnR.rep hu
  · cases h
theorem RCs.appOn {B : Nat} {g : Gh} {w : World} {xs ys : List C} {us vs : List Value} (h : RCs B g w xs us) (k : RCs B g w ys vs) : RCs B g w (xs ++ ys) (us ++ vs) := by
  refine ⟨by simp [h.1, k.1], fun j d u a b => ?_⟩
  rcases Nat.lt_or_ge j xs.length with hj | hj
  · rw [List.getElem?_append_left hj] at a; rw [List.getElem?_append_left (by rw [h.1]; exact hj)] at b; exact h.2 j d u a b
  · rw [List.getElem?_append_right hj] at a; rw [List.getElem?_append_right (by rw [h.1]; exact hj), h.1] at b; exact k.2 _ d u a b
theorem made_flat (z : Array Value) (k n : Nat) (hz : z.size = k) (hk : 0 < k) : (madeCells z (n * k)).toList = (List.replicate n z.toList).flatten := by
  have key : ∀ n : Nat, (List.range (n * k)).map (fun j => (z[j % k]!)) = (List.replicate n z.toList).flatten := by
    intro n
    induction n with
    | zero => simp
    | succ n ih =>
      rw [List.replicate_succ', List.flatten_append, ← ih, Nat.add_mul, Nat.one_mul, List.range_add, List.map_append]
      congr 1
      rw [List.map_map]
      simp only [List.flatten_cons, List.flatten_nil, List.append_nil]
      apply List.ext_getElem
      · simp [hz]
      · intro i h1 h2
        simp only [List.getElem_map, List.getElem_range, Function.comp_apply]
        have hi : i < k := by simpa using h1
        rw [Nat.add_comm, Nat.add_mul_mod_self_right, Nat.mod_eq_of_lt hi, getElem!_pos z i (by omega)]
        simp
  rw [← key]
  simp [madeCells, hz]
/-- an operation that makes or changes memory: what is asked, what it yields, the frame behind. -/
def aop2 (P : Program) (σ : St) (dst : Option Tmp) : Op → Option (Prop × T × St)
  | .alloc t => match dst, ck P t with
    | some d, some (_, _, z) => some (True, .e (.bx d 0), (σ.sc pAll (pNot d)).setB d (z.map .d))
    | _, _ => none
  | .box t x => match dst, cellsE (bodyT (ev σ x)) with
    | some d, some row => some (oblT (ev σ x), .e (.bx d 0), (σ.sc pAll (pNot d)).setB d row)
    | _, _ => none
  | .store t p v => match dst, bodyT (ev σ p), cellsE (bodyT (ev σ v)), ck P t with
    | none, .bx id off, some xs, some (_, n, _) => match σ.b id with
      | some row => some (oblT (ev σ p) ∧ oblT (ev σ v) ∧ xs.length = n ∧ off + xs.length ≤ row.length, .e .un, σ.setB id (lay row off xs))
      | none => none
    | _, _, _, _ => none
  | .build t parts => match aBuild P σ t parts with
    | some (ob, y) => some (ob, .e y, σ)
    | none => none
  | .makeSlice t l c => match dst, tk P t, intE (bodyT (ev σ l)), intE (bodyT (ev σ c)) with
    | some d, .sl _ k by_ z, some (_, n), some (_, m) => some (oblT (ev σ l) ∧ oblT (ev σ c) ∧ m = n ∧ 0 ≤ n ∧ by_ * n ≤ 281474976710656 ∧ n ≤ 281474976710656,
        .e (.bs d k n.toNat), (σ.sc pAll (pNot d)).setB d (List.replicate n.toNat (z.map C.d)).flatten)
    | _, _, _, _ => none
  | .buildSlice t len parts => match dst, tk P t with
    | some d, .sl e k _ _ => match aRows σ k 0 parts.toList with
      | some (ob, rows) => some (ob ∧ parts.toList.length = len ∧ len * k ≤ 16777216, .e (.own e k rows d), σ.sc (pNot d) pAll)
      | none => none
    | _, _ => none
  | .call ⟨.builtin .append, args, ts⟩ => match dst, args.toList, ts.toList with
    | some d, [s, x], [t, t'] => match tk P t, bodyT (ev σ s) with
      | .sl e k by_ _, .own e' k' rows tok => match rowsK k (bodyT (ev σ x)) with
        | some (ob, rows') => some (t' = t ∧ oblT (ev σ s) ∧ oblT (ev σ x) ∧ e' = e ∧ k' = k ∧ ob ∧ (rows.length + rows'.length) * by_ ≤ 140737488355328 ∧ rows.length + rows'.length ≤ 140737488355328,
            .e (.own e k (rows ++ rows') tok), σ.sc (pNot tok) pAll)
        | none => none
      | .sl e k by_ _, .d .nil => match rowsK k (bodyT (ev σ x)) with
        | some (ob, rows') => some (t' = t ∧ oblT (ev σ s) ∧ oblT (ev σ x) ∧ ob ∧ rows'.length * by_ ≤ 140737488355328 ∧ rows'.length ≤ 140737488355328,
            .e (.own e k rows' d), σ.sc (pNot d) pAll)
        | none => none
      | _, _ => none
    | _, _, _ => none
  | _ => none
theorem sc_sc (p q p' q' : Nat → Bool) (σ : St) (h1 : ∀ i, p i = true → p' i = true) (h2 : ∀ i, q i = true → q' i = true) (h3 : p' = p) (h4 : q' = q) : (σ.sc p q).sc p' q' = σ.sc p q := by
  subst h3 h4
  have hc : ∀ y, scC p' (scC p' y) = scC p' y := by
    intro y; cases y with
    | d x => rfl
    | own e k rows t => by_cases hp : p' t = true <;> simp [scC, hp]
  have hcm : ∀ l : List C, (l.map (scC p')).map (scC p') = l.map (scC p') := by
    intro l; rw [List.map_map]; congr 1; funext y; exact hc y
  have he : ∀ y, scE p' q' (scE p' q' y) = scE p' q' y := by
    intro y; cases y with
    | d x => rfl
    | own e k rows t => by_cases hp : p' t = true <;> simp [scE, hp]
    | bx i o => by_cases hp : q' i = true <;> simp [scE, hp]
    | bs i k n => by_cases hp : q' i = true <;> simp [scE, hp]
    | ag xs => simp only [scE, hcm]
    | un => rfl
  have ht : ∀ y, scT p' q' (scT p' q' y) = scT p' q' y := by
    intro y; cases y with
    | e x => simp only [scT, he]
    | tup xs => simp only [scT, List.map_map]; congr 2; funext y; exact he y
    | mb c x => simp only [scT, he]
  unfold St.sc
  congr 1
  · funext i; exact ht _
  · funext i
    by_cases hq : q' i = true
    · simp only [hq, if_true]
      cases σ.b i with
      | none => rfl
      | some row => simp only [Option.map_some, hcm]
    · simp only [hq, if_false, Bool.false_eq_true]
/-- a literal slice is laid. -/
theorem lit_run {x : Cx} {g : Gh} {σ : St} {a : Act} {w : World} (hr : Rel x g σ a w) {t e k by_ len : Nat} {z : List D} (hk : tk x.P t = .sl e k by_ z) {o : Oper} {parts : Array (Nat × Operand)} (hop : o.op = .buildSlice t len parts) {ob' : Prop} {rows : List (List D)} (h' : aRows σ k 0 parts.toList = some (ob', rows)) (o1 : ob') (o2 : parts.toList.length = len) (o3 : len * k ≤ 16777216) :
    ∃ vals, RepRows g.S w k rows vals ∧ rows.length ≤ maxLen ∧ (execOp a.eval o).run x.P w = .ok (.value (.slice (some ⟨w.heap.size, 0, none⟩) rows.length rows.length)) (w.alloc (.cells vals.toArray e)) := by
  obtain ⟨hu1, i, zv, q1, q2, q3, q4, q5, q6, q7, q8, -⟩ := tk_sl hk
  obtain ⟨cs', vals, r1, r2, r3, r4⟩ := aRows_ok hr parts.toList 0 ob' rows h' o1 ((Array.range (len * k)).map (zv.cells[· % zv.cells.size]!)) (by rw [o2]; simp)
  rw [Nat.zero_mul, List.take_zero, List.nil_append] at r2
  refine ⟨vals, r3, by rw [r4, o2]; unfold maxLen; have := Nat.le_mul_of_pos_right len q6; omega, ?_⟩
  have hcs : cs' = vals.toArray := Array.ext' (by rw [r2])
  subst hcs
  have hlen : rows.length = len := by rw [r4, o2]
  have r1' : Instr.fill (fun i => some (i * k, k)) ((Array.range (len * k)).map (zv.cells[· % zv.cells.size]!)) (parts.map fun (i, x) => (i, a.eval x)).toList = some vals.toArray := by rw [← r1]; simp
  simp only [execOp, hop, Instr.buildSlice, Sem.run_bind, run_underlying hu1, Result.andThen_ok, tk_slice_len hk]
  rw [if_neg (by omega)]
  by_cases hz : len * k = 0
  · have hl0 : len = 0 := by
      rcases Nat.mul_eq_zero.1 hz with q | q
      · exact q
      · omega
    subst hl0
    have hp0 : parts.toList = [] := List.eq_nil_of_length_eq_zero o2
    have hp0' : parts = #[] := Array.ext' hp0
    subst hp0'
    have hv0 : vals = [] := List.eq_nil_of_length_eq_zero (by rw [r3.1, hlen]; simp)
    subst hv0
    simp [Instr.fill, newRow, hlen, go_sem]
  · rw [if_neg hz]
    have hzv : (zeroValue e).run x.P w = .ok zv w := by simp [zeroValue, typeInfo, q1, q2]
    simp only [Sem.run_bind, hzv, Sem.run_pure, Result.andThen_ok, r1']
    simp [newRow, hlen]
theorem aop2_ok {x : Cx} {σ σ' : St} {o : Oper} {ob : Prop} {y : T} (h : aop2 x.P σ o.dst o.op = some (ob, y, σ')) (ho : ob) {g : Gh} {a : Act} {w : World} (hr : Rel x g σ a w) :
    ∃ w' g', Rel x g' σ' a w' ∧ ((∃ r, (execOp a.eval o).run x.P w = .ok (.value r) w' ∧ RT x.B g' w' y r) ∨ ((execOp a.eval o).run x.P w = .ok .skip w' ∧ y = .e .un)) := by
  have hev := ev_ok hr
  have hb : ∀ z, oblT (ev σ z) → RE x.B g w (bodyT (ev σ z)) (a.eval z) := fun z hz => body_ok (hev z) hz
  unfold aop2 at h
  split at h
  · rename_i t hop
    split at h
    · rename_i d ag n z hd hk
      injection h with h; injection h with e1 e2; injection e2 with e2 e3
      subst e2 e3
      obtain ⟨-, ⟨i, zv, h1, h2, h3, h4, h5, h6⟩, -⟩ := ck_spec hk
      subst h6
      have hbx := hr.newBox d ((zv.cells.toList.map dv).map .d) zv.cells.toList t (RCs.ofD (dv_repL _ _ _ h5)) h5
      refine ⟨_, _, hbx, .inl ⟨.pointer (some ⟨w.heap.size, 0, none⟩), ?_, ?_⟩⟩
      · simp [execOp, hop, Instr.alloc, zeroValue, typeInfo, h1, h3, newVar, newRow]
      · show _ = Value.pointer (some ⟨if d = d then w.heap.size else g.β d, 0, none⟩)
        rw [if_pos rfl]
    · cases h
  · rename_i t z hop
    split at h
    · rename_i d row hd hc
      injection h with h; injection h with e1 e2; injection e2 with e2 e3
      subst e1 e2 e3
      have hrow := cellsE_ok hc (hb z ho)
      have hbx := hr.newBox d row (a.eval z).cells.toList t hrow hrow.one
      refine ⟨_, _, hbx, .inl ⟨.pointer (some ⟨w.heap.size, 0, none⟩), ?_, ?_⟩⟩
      · simp [execOp, hop, Instr.box, newVar, newRow]
      · show _ = Value.pointer (some ⟨if d = d then w.heap.size else g.β d, 0, none⟩)
        rw [if_pos rfl]
    · cases h
  · rename_i t p v hop
    split at h
    · rename_i id off xs ag n z hd hp hv hk
      split at h
      · rename_i row hrow
        injection h with h; injection h with e1 e2; injection e2 with e2 e3
        subst e1 e2 e3
        obtain ⟨o1, o2, o3, o4⟩ := ho
        have hp' := hb p o1
        rw [hp] at hp'
        have hp' : a.eval p = .pointer (some ⟨g.β id, off, none⟩) := hp'
        have hxs := cellsE_ok hv (hb v o2)
        obtain ⟨w', s1, s2⟩ := hr.store id off row xs hrow _ hxs hxs.one o4
        refine ⟨w', g, s2, .inr ⟨?_, rfl⟩⟩
        have hsz : (a.eval v).cells.size = n := by have := hxs.1; rw [Array.length_toList] at this; omega
        simp only [execOp, hop, Instr.storeAt, hp', Instr.sureAddr, Sem.run_bind, Sem.run_pure, Result.andThen_ok, storeVar, ck_size hk]
        rw [if_neg (by simp [hsz])]
        rw [s1]; rfl
      · cases h
    · cases h
  · rename_i t parts hop
    split at h
    · rename_i ob' y' h'
      injection h with h; injection h with e1 e2; injection e2 with e2 e3
      subst e1 e2 e3
      obtain ⟨r, r1, r2⟩ := aBuild_ok hr h' ho
      refine ⟨w, g, hr, .inl ⟨r, ?_, r2⟩⟩
      simp only [execOp, hop, Sem.run_bind, r1]; rfl
    · cases h
  · rename_i t l c hop
    split at h
    · rename_i d e k by_ z kl n kc m hd hk hl hc
      injection h with h; injection h with e1 e2; injection e2 with e2 e3
      subst e1 e2 e3
      obtain ⟨o1, o2, rfl, o4, o5, o6⟩ := ho
      obtain ⟨hu1, i, zv, q1, q2, q3, q4, q5, q6, q7, q8, -⟩ := tk_sl hk
      have el := intE_ok hl (hb l o1)
      have ec := intE_ok hc (hb c o2)
      have hrun := run_make (P := x.P) w t e i zv hu1 q1 q2 kl kc m m o4 (Int.le_refl _) (by rw [q4]; exact o5) (by omega)
      have hmc : (madeCells zv.cells (m.toNat * i.size)).toList = (List.replicate m.toNat zv.cells.toList).flatten := by
        rw [q3]; exact made_flat zv.cells k m.toNat q5 q6
      have hrow : RCs x.B g w (List.replicate m.toNat (z.map C.d)).flatten (madeCells zv.cells (m.toNat * i.size)).toList := by
        rw [hmc, q8]
        generalize m.toNat = N
        induction N with
        | zero => exact ⟨rfl, fun j y u q => by simp at q⟩
        | succ N ih =>
          rw [List.replicate_succ, List.replicate_succ, List.flatten_cons, List.flatten_cons]
          exact RCs.appOn (RCs.ofD (dv_repL _ _ _ q7)) ih
      have hbx := hr.newBox d _ _ e hrow hrow.one
      refine ⟨_, _, hbx, .inl ⟨.slice (some ⟨w.heap.size, 0, none⟩) m.toNat m.toNat, ?_, ?_⟩⟩
      · simp only [execOp, hop, el, ec, Sem.run_bind, hrun, Result.andThen_ok, Sem.run_pure]
      · refine ⟨?_, by unfold maxLen; omega⟩
        show _ = Value.slice (some ⟨if d = d then w.heap.size else g.β d, 0, none⟩) _ _
        rw [if_pos rfl]
    · cases h
  · rename_i t len parts hop
    split at h
    · rename_i d e k by_ z hd hk
      split at h
      · rename_i ob' rows h'
        injection h with h; injection h with e1 e2; injection e2 with e2 e3
        subst e1 e2 e3
        obtain ⟨o1, o2, o3⟩ := ho
        obtain ⟨vals, r3, r4, r5⟩ := lit_run hr hk hop h' o1 o2 o3
        obtain ⟨g', l1, l2, -⟩ := hr.lit d e k rows vals r3 r4
        exact ⟨_, g', l1, .inl ⟨_, r5, l2⟩⟩
      · cases h
    · cases h
  · rename_i args ts hop
    split at h
    · rename_i d s z t t' hd ha ht
      have ea : args = #[s, z] := Array.ext' ha
      have et : ts = #[t, t'] := Array.ext' ht
      subst ea et
      split at h
      · rename_i e k by_ zz e' k' rows tok hk hs
        split at h
        · rename_i ob' rows' hx
          injection h with h; injection h with e1 e2; injection e2 with e2 e3
          subst e1 e2 e3
          obtain ⟨rfl, o1, o2, rfl, rfl, o3, o4, o5⟩ := ho
          have hs' := hb s o1
          rw [hs] at hs'
          obtain ⟨v', w', g', r1, r2, r3⟩ := hr.append (ty := o.type) hk hs' (rowsK_ok hx o3 (hb z o2)) o4 (by unfold maxLen; omega)
          refine ⟨w', g', r2, .inl ⟨v', ?_, r3⟩⟩
          simp only [execOp, hop, resolve, invoke, builtin, Sem.run_bind, Sem.run_pure, Result.andThen_ok, List.map_toArray, List.map_cons, List.map_nil]
          rw [r1]; rfl
        · cases h
      · rename_i e k by_ zz hk hs
        split at h
        · rename_i ob' rows' hx
          injection h with h; injection h with e1 e2; injection e2 with e2 e3
          subst e1 e2 e3
          obtain ⟨rfl, o1, o2, o3, o4, o5⟩ := ho
          have hs' := hb s o1
          rw [hs] at hs'
          have hs' : a.eval s = .slice none 0 0 := by
            have : Rep g.S w .nil (a.eval s) := hs'
            generalize a.eval s = v at this
            cases this; rfl
          obtain ⟨g1, n1, n2, n3⟩ := hr.nilTok d e k
          obtain ⟨v', w', g', r1, r2, r3⟩ := n2.append (ty := o.type) hk n3 ((rowsK_ok hx o3 (hb z o2)).mono n1) (by simpa using o4) (by unfold maxLen; simp; omega)
          rw [sc_sc _ _ _ _ _ (fun _ h => h) (fun _ h => h) rfl rfl] at r2
          refine ⟨w', g', r2, .inl ⟨v', ?_, r3⟩⟩
          simp only [execOp, hop, resolve, invoke, builtin, Sem.run_bind, Sem.run_pure, Result.andThen_ok, List.map_toArray, List.map_cons, List.map_nil, hs']
          rw [r1]; rfl
        · cases h
      · cases h
    · cases h
  · cases h
end Go.Proofs.Ytokjkmibnjfkaaa
