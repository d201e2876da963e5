import Derived.Test.YthkgncddilkmbaaGeB
/- The second engine, ninth part: operations that make or change memory. -/
namespace Go.Proofs.Ythkgncddilkmbaa
set_option linter.unusedVariables false
set_option linter.unusedSimpArgs false
open Go.RowKit
theorem lay_foldl : ∀ (vs : List Value) (cs : Array Value) (off k : Nat), off + k + vs.length ≤ cs.size →
    ((vs.zipIdx k).foldl (fun cs (p : Value × Nat) => cs.setIfInBounds (off + p.2) p.1) cs).toList = lay cs.toList (off + k) vs
  | [], cs, off, k, h => by simp [lay]
  | v :: vs, cs, off, k, h => by
    simp only [List.length_cons] at h
    rw [List.zipIdx_cons, List.foldl_cons, lay_foldl vs _ off (k + 1) (by simp; omega)]
    unfold lay
    have hl : off + k < cs.toList.length := by rw [Array.length_toList]; omega
    rw [Array.toList_setIfInBounds, List.length_cons, show off + (k + 1) = off + k + 1 by omega, show off + k + (vs.length + 1) = off + k + 1 + vs.length by omega]
    rw [List.drop_set_of_lt (by omega), List.take_add_one, List.getElem?_set_self hl, List.take_set, List.set_eq_of_length_le (by simp; exact Nat.min_le_left _ _)]
    simp
theorem fill_step {place : Nat → Option (Nat × Nat)} {cells : Array Value} {i off sz : Nat} {v : Value} {rest : List (Nat × Value)} (hp : place i = some (off, sz)) (h1 : v.cells.size = sz) (h2 : off + sz ≤ cells.size) :
    Instr.fill place cells ((i, v) :: rest) = Instr.fill place (lay cells.toList off v.cells.toList).toArray rest := by
  have hf : (v.cells.zipIdx.foldl (fun cs (p : Value × Nat) => cs.setIfInBounds (off + p.2) p.1) cells) = (lay cells.toList off v.cells.toList).toArray := by
    apply Array.ext'
    have hl : v.cells.toList.length = v.cells.size := Array.length_toList
    have := lay_foldl v.cells.toList cells off 0 (by omega)
    rw [← Array.foldl_toList, Array.toList_zipIdx]
    exact this
  simp only [Instr.fill, hp]
  rw [if_neg (by simp only [ne_eq, Bool.or_eq_true, decide_eq_true_eq]; omega)]
  rw [← hf]
theorem one_cells {v : Value} (h : v.oneCell' = true) : v.cells = #[v] := by cases v <;> first | rfl | (simp [Value.oneCell'] at h)
/-- the cells of a part, however they come. -/
def cellsE : D → Option (List D)
  | .ag xs => some xs
  | .un => none
  | .tup _ => none
  | .mb _ _ => none
  | d => some [d]
theorem cellsE_ok {g : Gh} {w : World} {y : D} {cs : List D} {v : Value} (h : cellsE y = some cs) (hv : RE g w y v) : RCs g w cs v.cells.toList := by
  cases y with
  | ag xs =>
    injection h with h; subst h
    obtain ⟨us, rfl, hus⟩ := hv
    exact hus
  | un => cases h
  | tup _ => cases h
  | mb _ _ => cases h
  | _ =>
    simp only [cellsE] at h
    injection h with h; subst h
    simp only [RE] at hv
    rw [one_cells hv.one]
    refine ⟨rfl, fun j z u a b => ?_⟩
    cases j with
    | zero => simp at a b; subst a b; exact hv
    | succ j => simp at a
theorem RCs.one {g : Gh} {w : World} {ys : List D} {us : List Value} (h : RCs g w ys us) : ∀ u ∈ us, u.oneCell' = true := by
  intro u hu
  obtain ⟨j, hj, rfl⟩ := List.getElem_of_mem hu
  exact (h.2 j (ys[j]'(by rw [← h.1]; exact hj)) us[j] (by rw [List.getElem?_eq_getElem]) (by rw [List.getElem?_eq_getElem])).one
/-- a struct by value. -/
def aFill (σ : St) (fs : List (Nat × Nat × Bool)) : List D → List (Nat × Operand) → Option (Prop × List D)
  | cells, [] => some (True, cells)
  | cells, (i, x) :: rest => match fs[i]?, cellsE (bodyT (ev σ x)) with
    | some (off, sz, _), some xs => match aFill σ fs (lay cells off xs) rest with
      | some (ob, r) => some (oblT (ev σ x) ∧ xs.length = sz ∧ off + sz ≤ cells.length ∧ ob, r)
      | none => none
    | _, _ => none
theorem RCs.layOn {g : Gh} {w : World} {ys xs : List D} {us vs : List Value} (h : RCs g w ys us) (k : RCs g w xs vs) (off : Nat) (hl : off + xs.length ≤ ys.length) : RCs g w (lay ys off xs) (lay us off vs) := by
  have h1 := h.1
  have k1 := k.1
  refine ⟨by rw [lay_len hl, lay_len (by omega), h1], fun j y u hy hu => ?_⟩
  rw [lay_at hl] at hy
  rw [lay_at (by omega)] at hu
  split at hy
  · rw [if_pos (by omega)] at hu; exact k.2 _ y u hy hu
  · rw [if_neg (by omega)] at hu; exact h.2 _ y u hy hu
theorem aFill_ok {x : Cx} {g : Gh} {σ : St} {a : Act} {w : World} (hr : Rel x g σ a w) {fs : List (Nat × Nat × Bool)} {place : Nat → Option (Nat × Nat)} (hpl : ∀ i off sz ag, fs[i]? = some (off, sz, ag) → place i = some (off, sz)) :
    ∀ (parts : List (Nat × Operand)) (cells : List D) (cs : Array Value) (ob : Prop) (r : List D), aFill σ fs cells parts = some (ob, r) → ob → RCs g w cells cs.toList →
      ∃ cs', Instr.fill place cs (parts.map fun p => (p.1, a.eval p.2)) = some cs' ∧ RCs g w r cs'.toList
  | [], cells, cs, ob, r, h, ho, hc => by
    injection h with h; injection h with e1 e2
    subst e2
    exact ⟨cs, rfl, hc⟩
  | (i, y) :: rest, cells, cs, ob, r, h, ho, hc => by
    unfold aFill at h
    split at h
    · rename_i off sz ag xs hf hx
      split at h
      · rename_i ob' r' h'
        injection h with h; injection h with e1 e2
        subst e1 e2
        obtain ⟨o1, o2, o3, o4⟩ := ho
        have hb := cellsE_ok hx (body_ok (ev_ok hr y) o1)
        have hl : cs.size = cells.length := by have := hc.1; rwa [Array.length_toList] at this
        have hvl : (a.eval y).cells.size = xs.length := by have := hb.1; rwa [Array.length_toList] at this
        have hlay := hc.layOn hb off (by omega)
        obtain ⟨cs', r1, r2⟩ := aFill_ok hr hpl rest _ (lay cs.toList off (a.eval y).cells.toList).toArray ob' r' h' o4 (by simpa using hlay)
        refine ⟨cs', ?_, r2⟩
        rw [List.map_cons, fill_step (v := a.eval y) (hpl i off sz ag hf) (by omega) (by omega)]
        exact r1
      · cases h
    · cases h
theorem dv_RCs (g : Gh) (w : World) (us : List Value) (h : ∀ u ∈ us, u.oneCell' = true) : RCs g w (us.map dv) us := by
  refine ⟨by simp, fun j d u hd hu => ?_⟩
  rw [List.getElem?_map, hu] at hd
  injection hd with hd
  subst hd
  exact (dv_rep _ (h u (List.mem_of_getElem? hu))).rc
def aBuild (P : Program) (σ : St) (t : TypeId) (parts : Array (Nat × Operand)) : Option (Prop × D) := match tk P t with
  | .st _ fs z => match aFill σ fs z parts.toList with
    | some (ob, r) => some (ob, .ag r)
    | none => none
  | _ => none
theorem aBuild_ok {x : Cx} {g : Gh} {σ : St} {a : Act} {w : World} (hr : Rel x g σ a w) {t : TypeId} {parts : Array (Nat × Operand)} {ob : Prop} {y : D} (h : aBuild x.P σ t parts = some (ob, y)) (ho : ob) :
    ∃ r, (Instr.build t (parts.map fun (i, x) => (i, a.eval x))).run x.P w = .ok r w ∧ RE g w y r := by
  unfold aBuild at h
  split at h
  · rename_i n fs z hk
    obtain ⟨fields, i, zv, a1, a2, a3, a4, a5, a6, a7, a8, a9⟩ := tk_st hk
    split at h
    · rename_i ob' r h'
      injection h with h; injection h with e1 e2
      subst e1 e2
      have hz : RCs g w z zv.toList := by rw [a7]; exact dv_RCs _ _ _ a6
      have hm : fields.toList.mapM (fun f => (x.P.info? f.type).map fun i => (f.offset, i.size)) = some (fields.toList.map fun f => (f.offset, szT x.P f.type)) := by
        have key : ∀ l : List Field, (∀ f ∈ l, szT x.P f.type ≠ 0) → l.mapM (fun f => (x.P.info? f.type).map fun i => (f.offset, i.size)) = some (l.map fun f => (f.offset, szT x.P f.type)) := by
          intro l
          induction l with
          | nil => intro _; rfl
          | cons f l ih =>
            intro hl
            have hf := hl f (by simp)
            have hs : (x.P.info? f.type).map (fun i => (f.offset, i.size)) = some (f.offset, szT x.P f.type) := by
              unfold szT at hf ⊢
              cases hi : x.P.info? f.type with
              | none => rw [hi] at hf; exact absurd rfl hf
              | some i => rfl
            rw [List.mapM_cons, hs, ih (fun y hy => hl y (by simp [hy]))]; rfl
        exact key _ (fun f hf => (a9 f hf).1)
      obtain ⟨cs', r1, r2⟩ := aFill_ok hr (place := fun i => (fields.toList.map fun f => (f.offset, szT x.P f.type)).toArray[i]?) (fun i off sz ag hi => by
        rw [a8, List.getElem?_map] at hi
        rw [List.getElem?_toArray, List.getElem?_map]
        cases hj : fields.toList[i]? with
        | none => rw [hj] at hi; cases hi
        | some f =>
          rw [hj] at hi
          injection hi with hi
          injection hi with h1 h2
          injection h2 with h2 h3
          rw [← h1, ← h2]; rfl) parts.toList z zv ob' r h' ho hz
      refine ⟨.agg cs', run_build w t _ cs' ?_, cs'.toList, rfl, r2⟩
      unfold Program.built
      simp only [a2, a1, a4, hm, Value.cells]
      rw [← r1]
      congr 1
      simp
    · cases h
  · cases h
/-! ### what is taken along -/
def idO : Option Nat → List Nat → List Nat
  | none, l => l
  | some a, l => a :: l
def idsC : List D → List Nat
  | [] => []
  | c :: l => idO (idC c) (idsC l)
def nodB : List Nat → Bool
  | [] => true
  | a :: l => pOut l a && nodB l
def tgtC : List D → Nat → Nat
  | [], _ => 0
  | c :: l, id => if idC c = some id then 0 else tgtC l id + 1
theorem idsC_mem {l : List D} {q : Nat} {c : D} {id : Nat} (h : l[q]? = some c) (hc : idC c = some id) : id ∈ idsC l := by
  induction l generalizing q with
  | nil => simp at h
  | cons d l ih =>
    simp only [idsC]
    cases q with
    | zero => simp at h; subst h; rw [hc]; simp [idO]
    | succ q =>
      have := ih (q := q) (by simpa using h)
      cases idC d <;> simp [idO, this]
theorem tgtC_at {l : List D} {q : Nat} {c : D} {id : Nat} (hn : nodB (idsC l) = true) (h : l[q]? = some c) (hc : idC c = some id) : tgtC l id = q := by
  induction l generalizing q with
  | nil => simp at h
  | cons d l ih =>
    simp only [tgtC]
    cases q with
    | zero => simp at h; subst h; rw [if_pos hc]
    | succ q =>
      have h' : l[q]? = some c := by simpa using h
      simp only [idsC] at hn
      by_cases e : idC d = some id
      · exfalso
        rw [e] at hn
        simp only [idO, nodB, Bool.and_eq_true] at hn
        exact pOut_spec hn.1 id (idsC_mem h' hc) rfl
      · rw [if_neg e, ih ?_ h']
        cases hd : idC d with
        | none => rw [hd] at hn; exact hn
        | some a => rw [hd] at hn; simp only [idO, nodB, Bool.and_eq_true] at hn; exact hn.2
def fdL (σ : St) : List D → Option (Prop × List D)
  | [] => some (True, [])
  | c :: l => match fdC σ c, fdL σ l with
    | some (o1, d), some (o2, ds) => some (o1 ∧ o2, d :: ds)
    | _, _ => none
theorem fdL_ok {x : Cx} {g : Gh} {σ : St} {a : Act} {w : World} (hr : Rel x g σ a w) : ∀ (l : List D) (ob : Prop) (ds : List D) (us : List Value), fdL σ l = some (ob, ds) → ob → RCs g w l us →
    ds.length = l.length ∧ ∀ (j : Nat) (c d : D) (u : Value), l[j]? = some c → ds[j]? = some d → us[j]? = some u → (idC c = none ∧ Rep g.S g.up w none d u) ∨ ∃ id, idC c = some id ∧ Rep g.S g.up w (some (.root id)) d u
  | [], ob, ds, us, h, ho, hu => by injection h with h; injection h with e1 e2; subst e2; exact ⟨rfl, fun j c d u q => by simp at q⟩
  | c :: l, ob, ds, us, h, ho, hu => by
    unfold fdL at h
    split at h
    · rename_i o1 d o2 ds' h1 h2
      injection h with h; injection h with e1 e2
      subst e1 e2
      obtain ⟨l1, l2⟩ := hu
      match us, l1 with
      | u :: us, l1 =>
        obtain ⟨i1, i2⟩ := fdL_ok hr l o2 ds' us h2 ho.2 ⟨by simpa using l1, fun j y u a b => l2 (j + 1) y u (by simpa using a) (by simpa using b)⟩
        refine ⟨by simp [i1], fun j c' d' u' q1 q2 q3 => ?_⟩
        cases j with
        | zero => simp at q1 q2 q3; subst q1 q2 q3; exact fdC_ok hr h1 ho.1 (l2 0 _ _ rfl rfl)
        | succ j => exact i2 j c' d' u' (by simpa using q1) (by simpa using q2) (by simpa using q3)
    · cases h
/-- rows of a literal slice, and their cells as they came. -/
def aRows (σ : St) (k : Nat) : Nat → List (Nat × Operand) → Option (Prop × List (List D) × List D)
  | _, [] => some (True, [], [])
  | j, (i, x) :: rest => match cellsE (bodyT (ev σ x)) with
    | some xs => match fdL σ xs, aRows σ k (j + 1) rest with
      | some (o1, ds), some (ob, rs, raw) => some (oblT (ev σ x) ∧ i = j ∧ xs.length = k ∧ o1 ∧ ob, ds :: rs, xs ++ raw)
      | _, _ => none
    | none => none
theorem aRows_ok {x : Cx} {g : Gh} {σ : St} {a : Act} {w : World} (hr : Rel x g σ a w) {k : Nat} :
    ∀ (parts : List (Nat × Operand)) (j : Nat) (ob : Prop) (rs : List (List D)) (raw : List D), aRows σ k j parts = some (ob, rs, raw) → ob → ∀ (cs : Array Value), cs.size = (j + parts.length) * k →
      ∃ cs' vals, Instr.fill (fun i => some (i * k, k)) cs (parts.map fun p => (p.1, a.eval p.2)) = some cs' ∧ cs'.toList = cs.toList.take (j * k) ++ vals ∧ rs.length = parts.length ∧ vals.length = rs.length * k ∧ raw.length = rs.length * k ∧
        (∀ (i : Nat) (row : List D), rs[i]? = some row → row.length = k) ∧
        ∀ (i l : Nat) (row : List D) (d : D), rs[i]? = some row → row[l]? = some d → ∃ u c, vals[i * k + l]? = some u ∧ raw[i * k + l]? = some c ∧ ((idC c = none ∧ Rep g.S g.up w none d u) ∨ ∃ id, idC c = some id ∧ Rep g.S g.up w (some (.root id)) d u)
  | [], j, ob, rs, raw, h, ho, cs, hcs => by
    injection h with h; injection h with e1 e2; injection e2 with e2 e3
    subst e2 e3
    exact ⟨cs, [], rfl, by rw [List.append_nil, List.take_of_length_le (by rw [Array.length_toList, hcs]; simp)], rfl, by simp, by simp, by simp, by simp⟩
  | (i, y) :: rest, j, ob, rs, raw, h, ho, cs, hcs => by
    unfold aRows at h
    split at h
    · rename_i xs hx
      split at h
      · rename_i o1 ds ob' rs' raw' hf h'
        injection h with h; injection h with e1 e2; injection e2 with e2 e3
        subst e1 e2 e3
        obtain ⟨o1, rfl, o3, o4, o5⟩ := ho
        have hb := cellsE_ok hx (body_ok (ev_ok hr y) o1)
        obtain ⟨f1, f2⟩ := fdL_ok hr _ _ _ _ hf o4 hb
        have hvl : (a.eval y).cells.toList.length = k := by rw [hb.1, o3]
        have hvl' : (a.eval y).cells.size = k := by rw [← Array.length_toList]; exact hvl
        simp only [List.length_cons] at hcs
        have hle : i * k + k ≤ cs.size := by
          rw [hcs, show i * k + k = (i + 1) * k by rw [Nat.add_mul, Nat.one_mul]]; exact Nat.mul_le_mul_right _ (by omega)
        have hcl : cs.toList.length = cs.size := Array.length_toList
        have hll : (lay cs.toList (i * k) (a.eval y).cells.toList).length = cs.size := by rw [lay_len (by omega), hcl]
        obtain ⟨cs', vals, r1, r2, r3, r4, r5, r6, r7⟩ := aRows_ok hr rest (i + 1) ob' rs' raw' h' o5 (lay cs.toList (i * k) (a.eval y).cells.toList).toArray (by rw [List.size_toArray, hll, hcs]; congr 1; omega)
        have hsucc : ∀ q l, (q + 1) * k + l = k + (q * k + l) := fun q l => by rw [Nat.add_mul, Nat.one_mul]; omega
        refine ⟨cs', (a.eval y).cells.toList ++ vals, ?_, ?_, by simp [r3], by rw [List.length_append, hvl, r4, List.length_cons, Nat.add_mul, Nat.one_mul]; omega, by rw [List.length_append, o3, r5, List.length_cons, Nat.add_mul, Nat.one_mul]; omega, fun q row hq => ?_, fun q l row d hq hl => ?_⟩
        · rw [List.map_cons, fill_step (v := a.eval y) rfl hvl' hle]
          exact r1
        · rw [r2]
          unfold lay
          have t1 : (cs.toList.take (i * k)).length = i * k := by rw [List.length_take]; omega
          have t2 : (cs.toList.take (i * k) ++ (a.eval y).cells.toList).length = (i + 1) * k := by rw [List.length_append, t1, hvl, Nat.add_mul, Nat.one_mul]
          rw [← t2]
          simp only [List.toList_toArray]
          rw [List.take_left, List.append_assoc]
        · cases q with
          | zero => simp at hq; subst hq; rw [f1, o3]
          | succ q => exact r6 q row (by simpa using hq)
        · cases q with
          | zero =>
            simp at hq
            subst hq
            have hlt : l < k := by have := (List.getElem?_eq_some_iff.1 hl).1; omega
            have hc : xs[l]? = some (xs[l]'(by omega)) := List.getElem?_eq_getElem (by omega)
            have hu : (a.eval y).cells.toList[l]? = some ((a.eval y).cells.toList[l]'(by omega)) := List.getElem?_eq_getElem (by omega)
            refine ⟨_, _, ?_, ?_, f2 l _ d _ hc hl hu⟩
            · rw [Nat.zero_mul, Nat.zero_add, List.getElem?_append_left (by omega)]; exact hu
            · rw [Nat.zero_mul, Nat.zero_add, List.getElem?_append_left (by omega)]; exact hc
          | succ q =>
            obtain ⟨u, c, q1, q2, q3⟩ := r7 q l row d (by simpa using hq) hl
            refine ⟨u, c, ?_, ?_, q3⟩
            · rw [hsucc, List.getElem?_append_right (by omega), hvl, Nat.add_sub_cancel_left]; exact q1
            · rw [hsucc, List.getElem?_append_right (by omega), o3, Nat.add_sub_cancel_left]; exact q2
      · cases h
    · cases h
/-- a literal slice is laid. -/
theorem lit_run {x : Cx} {g : Gh} {σ : St} {a : Act} {w : World} (hr : Rel x g σ a w) {t e k by_ len : Nat} {z : List D} (hk : tk x.P t = .sl e k by_ z) {o : Oper} {parts : Array (Nat × Operand)} (hop : o.op = .buildSlice t len parts) {ob' : Prop} {rows : List (List D)} {raw : List D} (h' : aRows σ k 0 parts.toList = some (ob', rows, raw)) (o1 : ob') (o2 : parts.toList.length = len) (o3 : len * k ≤ 16777216) :
    ∃ vals : List Value, rows.length ≤ maxLen ∧ vals.length = rows.length * k ∧ (∀ (i : Nat) (row : List D), rows[i]? = some row → row.length = k) ∧
      (∀ (i l : Nat) (row : List D) (d : D), rows[i]? = some row → row[l]? = some d → ∃ u c, vals[i * k + l]? = some u ∧ raw[i * k + l]? = some c ∧ ((idC c = none ∧ Rep g.S g.up w none d u) ∨ ∃ id, idC c = some id ∧ Rep g.S g.up w (some (.root id)) d u)) ∧
      (execOp a.eval o).run x.P w = .ok (.value (.slice (some ⟨w.heap.size, 0, none⟩) rows.length rows.length)) (w.alloc (.cells vals.toArray e)) := by
  obtain ⟨hu1, i, zv, q1, q2, q3, q4, q5, q6, q7, q8, -⟩ := tk_sl hk
  obtain ⟨cs', vals, r1, r2, r3, r4, r5, r6, r7⟩ := aRows_ok hr parts.toList 0 ob' rows raw h' o1 ((Array.range (len * k)).map (zv.cells[· % zv.cells.size]!)) (by rw [o2]; simp)
  rw [Nat.zero_mul, List.take_zero, List.nil_append] at r2
  refine ⟨vals, by rw [r3, o2]; unfold maxLen; have := Nat.le_mul_of_pos_right len q6; omega, r4, r6, r7, ?_⟩
  have hcs : cs' = vals.toArray := Array.ext' (by rw [r2])
  subst hcs
  have hlen : rows.length = len := by rw [r3, o2]
  have r1' : Instr.fill (fun i => some (i * k, k)) ((Array.range (len * k)).map (zv.cells[· % zv.cells.size]!)) (parts.map fun (i, x) => (i, a.eval x)).toList = some vals.toArray := by rw [← r1]; simp
  simp only [execOp, hop, Instr.buildSlice, Sem.run_bind, run_underlying hu1, Result.andThen_ok, tk_slice_len hk]
  rw [if_neg (by omega)]
  by_cases hz : len * k = 0
  · have hl0 : len = 0 := by
      rcases Nat.mul_eq_zero.1 hz with q | q
      · exact q
      · omega
    subst hl0
    have hp0 : parts.toList = [] := List.eq_nil_of_length_eq_zero o2
    have hp0' : parts = #[] := Array.ext' hp0
    subst hp0'
    have hv0 : vals = [] := List.eq_nil_of_length_eq_zero (by rw [r4, hlen]; simp)
    subst hv0
    simp [Instr.fill, newRow, hlen, go_sem]
  · rw [if_neg hz]
    have hzv : (zeroValue e).run x.P w = .ok zv w := by simp [zeroValue, typeInfo, q1, q2]
    simp only [Sem.run_bind, hzv, Sem.run_pure, Result.andThen_ok, r1']
    simp [newRow, hlen]
end Go.Proofs.Ythkgncddilkmbaa
