import Derived.Test.YtgcdbmcoendcdaaGreatGdB
import Derived.Lib.AppendStr
import Derived.Laws.IdiomStrings
/- The second engine, ninth part: operations that make or change memory. -/
namespace Go.Proofs.YtgcdbmcoendcdaaGreat
set_option linter.unusedVariables false
set_option linter.unusedSimpArgs false
open Go.RowKit
theorem lay_foldl : ∀ (vs : List Value) (cs : Array Value) (off k : Nat), off + k + vs.length ≤ cs.size →
    ((vs.zipIdx k).foldl (fun cs (p : Value × Nat) => cs.setIfInBounds (off + p.2) p.1) cs).toList = lay cs.toList (off + k) vs
  | [], cs, off, k, h => by simp [lay]
  | v :: vs, cs, off, k, h => by
    simp only [List.length_cons] at h
    rw [List.zipIdx_cons, List.foldl_cons, lay_foldl vs _ off (k + 1) (by simp; omega)]
    unfold lay
    have hl : off + k < cs.toList.length := by rw [Array.length_toList]; omega
    rw [Array.toList_setIfInBounds, List.length_cons, show off + (k + 1) = off + k + 1 by omega, show off + k + (vs.length + 1) = off + k + 1 + vs.length by omega]
    rw [List.drop_set_of_lt (by omega), List.take_add_one, List.getElem?_set_self hl, List.take_set, List.set_eq_of_length_le (by simp; exact Nat.min_le_left _ _)]
    simp
theorem fill_step {place : Nat → Option (Nat × Nat)} {cells : Array Value} {i off sz : Nat} {v : Value} {rest : List (Nat × Value)} (hp : place i = some (off, sz)) (h1 : v.cells.size = sz) (h2 : off + sz ≤ cells.size) :
    Instr.fill place cells ((i, v) :: rest) = Instr.fill place (lay cells.toList off v.cells.toList).toArray rest := by
  have hf : (v.cells.zipIdx.foldl (fun cs (p : Value × Nat) => cs.setIfInBounds (off + p.2) p.1) cells) = (lay cells.toList off v.cells.toList).toArray := by
    apply Array.ext'
    have hl : v.cells.toList.length = v.cells.size := Array.length_toList
    have := lay_foldl v.cells.toList cells off 0 (by omega)
    rw [← Array.foldl_toList, Array.toList_zipIdx]
    exact this
  simp only [Instr.fill, hp]
  rw [if_neg (by simp only [ne_eq, Bool.or_eq_true, decide_eq_true_eq]; omega)]
  rw [← hf]
theorem one_cells {v : Value} (h : v.oneCell' = true) : v.cells = #[v] := by cases v <;> first | rfl | (simp [Value.oneCell'] at h)
def cellsE : D → Option (List D)
  | .ag xs => some xs
  | .un => none
  | .tup _ => none
  | .mb _ _ => none
  | d => some [d]
theorem cellsE_ok {g : Gh} {w : World} {y : D} {cs : List D} {v : Value} (h : cellsE y = some cs) (hv : RE g w y v) : RCs g w cs v.cells.toList := by
  cases y with
  | ag xs =>
    injection h with h; subst h
    obtain ⟨us, rfl, hus⟩ := hv
    exact hus
  | un => cases h
  | tup _ => cases h
  | mb _ _ => cases h
  | _ =>
    simp only [cellsE] at h
    injection h with h; subst h
    simp only [RE] at hv
    rw [one_cells hv.one]
    refine ⟨rfl, fun j z u a b => ?_⟩
    cases j with
    | zero => simp at a b; subst a b; exact hv
    | succ j => simp at a
theorem RCs.one {g : Gh} {w : World} {ys : List D} {us : List Value} (h : RCs g w ys us) : ∀ u ∈ us, u.oneCell' = true := by
  intro u hu
  obtain ⟨j, hj, rfl⟩ := List.getElem_of_mem hu
  exact (h.2 j (ys[j]'(by rw [← h.1]; exact hj)) us[j] (by rw [List.getElem?_eq_getElem]) (by rw [List.getElem?_eq_getElem])).one
def aFill (σ : St) (fs : List (Nat × Nat × Bool)) : List D → List (Nat × Operand) → Option (Prop × List D)
  | cells, [] => some (True, cells)
  | cells, (i, x) :: rest => match fs[i]?, cellsE (bodyT (ev σ x)) with
    | some (off, sz, _), some xs => match aFill σ fs (lay cells off xs) rest with
      | some (ob, r) => some (oblT (ev σ x) ∧ xs.length = sz ∧ off + sz ≤ cells.length ∧ ob, r)
      | none => none
    | _, _ => none
theorem RCs.layOn {g : Gh} {w : World} {ys xs : List D} {us vs : List Value} (h : RCs g w ys us) (k : RCs g w xs vs) (off : Nat) (hl : off + xs.length ≤ ys.length) : RCs g w (lay ys off xs) (lay us off vs) := by
  have h1 := h.1
  have k1 := k.1
  refine ⟨by rw [lay_len hl, lay_len (by omega), h1], fun j y u hy hu => ?_⟩
  rw [lay_at hl] at hy
  rw [lay_at (by omega)] at hu
  split at hy
  · rw [if_pos (by omega)] at hu; exact k.2 _ y u hy hu
  · rw [if_neg (by omega)] at hu; exact h.2 _ y u hy hu
theorem aFill_ok {x : Cx} {g : Gh} {σ : St} {a : Act} {w : World} (hr : Rel x g σ a w) {fs : List (Nat × Nat × Bool)} {place : Nat → Option (Nat × Nat)} (hpl : ∀ i off sz ag, fs[i]? = some (off, sz, ag) → place i = some (off, sz)) :
    ∀ (parts : List (Nat × Operand)) (cells : List D) (cs : Array Value) (ob : Prop) (r : List D), aFill σ fs cells parts = some (ob, r) → ob → RCs g w cells cs.toList →
      ∃ cs', Instr.fill place cs (parts.map fun p => (p.1, a.eval p.2)) = some cs' ∧ RCs g w r cs'.toList
  | [], cells, cs, ob, r, h, ho, hc => by
    injection h with h; injection h with e1 e2
    subst e2
    exact ⟨cs, rfl, hc⟩
  | (i, y) :: rest, cells, cs, ob, r, h, ho, hc => by
    unfold aFill at h
    split at h
    · rename_i off sz ag xs hf hx
      split at h
      · rename_i ob' r' h'
        injection h with h; injection h with e1 e2
        subst e1 e2
        obtain ⟨o1, o2, o3, o4⟩ := ho
        have hb := cellsE_ok hx (body_ok (ev_ok hr y) o1)
        have hl : cs.size = cells.length := by have := hc.1; rwa [Array.length_toList] at this
        have hvl : (a.eval y).cells.size = xs.length := by have := hb.1; rwa [Array.length_toList] at this
        have hlay := hc.layOn hb off (by omega)
        obtain ⟨cs', r1, r2⟩ := aFill_ok hr hpl rest _ (lay cs.toList off (a.eval y).cells.toList).toArray ob' r' h' o4 (by simpa using hlay)
        refine ⟨cs', ?_, r2⟩
        rw [List.map_cons, fill_step (v := a.eval y) (hpl i off sz ag hf) (by omega) (by omega)]
        exact r1
      · cases h
    · cases h
theorem dv_RCs (g : Gh) (w : World) (us : List Value) (h : ∀ u ∈ us, u.oneCell' = true) : RCs g w (us.map dv) us := by
  refine ⟨by simp, fun j d u hd hu => ?_⟩
  rw [List.getElem?_map, hu] at hd
  injection hd with hd
  subst hd
  exact (dv_rep _ (h u (List.mem_of_getElem? hu))).rc
def aBuild (P : Program) (σ : St) (t : TypeId) (parts : Array (Nat × Operand)) : Option (Prop × D) := match tk P t with
  | .st _ fs z => match aFill σ fs z parts.toList with
    | some (ob, r) => some (ob, .ag r)
    | none => none
  | _ => none
theorem aBuild_ok {x : Cx} {g : Gh} {σ : St} {a : Act} {w : World} (hr : Rel x g σ a w) {t : TypeId} {parts : Array (Nat × Operand)} {ob : Prop} {y : D} (h : aBuild x.P σ t parts = some (ob, y)) (ho : ob) :
    ∃ r, (Instr.build t (parts.map fun (i, x) => (i, a.eval x))).run x.P w = .ok r w ∧ RE g w y r := by
  unfold aBuild at h
  split at h
  · rename_i n fs z hk
    obtain ⟨fields, i, zv, a1, a2, a3, a4, a5, a6, a7, a8, a9⟩ := tk_st hk
    split at h
    · rename_i ob' r h'
      injection h with h; injection h with e1 e2
      subst e1 e2
      have hz : RCs g w z zv.toList := by rw [a7]; exact dv_RCs _ _ _ a6
      have hm : fields.toList.mapM (fun f => (x.P.info? f.type).map fun i => (f.offset, i.size)) = some (fields.toList.map fun f => (f.offset, szT x.P f.type)) := by
        have key : ∀ l : List Field, (∀ f ∈ l, szT x.P f.type ≠ 0) → l.mapM (fun f => (x.P.info? f.type).map fun i => (f.offset, i.size)) = some (l.map fun f => (f.offset, szT x.P f.type)) := by
          intro l
          induction l with
          | nil => intro _; rfl
          | cons f l ih =>
            intro hl
            have hf := hl f (by simp)
            have hs : (x.P.info? f.type).map (fun i => (f.offset, i.size)) = some (f.offset, szT x.P f.type) := by
              unfold szT at hf ⊢
              cases hi : x.P.info? f.type with
              | none => rw [hi] at hf; exact absurd rfl hf
              | some i => rfl
            rw [List.mapM_cons, hs, ih (fun y hy => hl y (by simp [hy]))]; rfl
        exact key _ (fun f hf => (a9 f hf).1)
      obtain ⟨cs', r1, r2⟩ := aFill_ok hr (place := fun i => (fields.toList.map fun f => (f.offset, szT x.P f.type)).toArray[i]?) (fun i off sz ag hi => by
        rw [a8, List.getElem?_map] at hi
        rw [List.getElem?_toArray, List.getElem?_map]
        cases hj : fields.toList[i]? with
        | none => rw [hj] at hi; cases hi
        | some f =>
          rw [hj] at hi
          injection hi with hi
          injection hi with h1 h2
          injection h2 with h2 h3
          rw [← h1, ← h2]; rfl) parts.toList z zv ob' r h' ho hz
      refine ⟨.agg cs', run_build w t _ cs' ?_, cs'.toList, rfl, r2⟩
      unfold Program.built
      simp only [a2, a1, a4, hm, Value.cells]
      rw [← r1]
      congr 1
      simp
    · cases h
  · cases h
/-! ### what is taken along -/
def idO : Option Nat → List Nat → List Nat
  | none, l => l
  | some a, l => a :: l
def idsC : List D → List Nat
  | [] => []
  | c :: l => idO (idC c) (idsC l)
def nodB : List Nat → Bool
  | [] => true
  | a :: l => pOut l a && nodB l
def tgtC : List D → Nat → Nat
  | [], _ => 0
  | c :: l, id => if idC c = some id then 0 else tgtC l id + 1
theorem idsC_mem {l : List D} {q : Nat} {c : D} {id : Nat} (h : l[q]? = some c) (hc : idC c = some id) : id ∈ idsC l := by
  induction l generalizing q with
  | nil => simp at h
  | cons d l ih =>
    simp only [idsC]
    cases q with
    | zero => simp at h; subst h; rw [hc]; simp [idO]
    | succ q =>
      have := ih (q := q) (by simpa using h)
      cases idC d <;> simp [idO, this]
theorem tgtC_at {l : List D} {q : Nat} {c : D} {id : Nat} (hn : nodB (idsC l) = true) (h : l[q]? = some c) (hc : idC c = some id) : tgtC l id = q := by
  induction l generalizing q with
  | nil => simp at h
  | cons d l ih =>
    simp only [tgtC]
    cases q with
    | zero => simp at h; subst h; rw [if_pos hc]
    | succ q =>
      have h' : l[q]? = some c := by simpa using h
      simp only [idsC] at hn
      by_cases e : idC d = some id
      · exfalso
        rw [e] at hn
        simp only [idO, nodB, Bool.and_eq_true] at hn
        exact pOut_spec hn.1 id (idsC_mem h' hc) rfl
      · rw [if_neg e, ih ?_ h']
        cases hd : idC d with
        | none => rw [hd] at hn; exact hn
        | some a => rw [hd] at hn; simp only [idO, nodB, Bool.and_eq_true] at hn; exact hn.2
def fdL (σ : St) : List D → Option (Prop × List D)
  | [] => some (True, [])
  | c :: l => match fdC σ c, fdL σ l with
    | some (o1, d), some (o2, ds) => some (o1 ∧ o2, d :: ds)
    | _, _ => none
theorem fdL_ok {x : Cx} {g : Gh} {σ : St} {a : Act} {w : World} (hr : Rel x g σ a w) : ∀ (l : List D) (ob : Prop) (ds : List D) (us : List Value), fdL σ l = some (ob, ds) → ob → RCs g w l us →
    ds.length = l.length ∧ ∀ (j : Nat) (c d : D) (u : Value), l[j]? = some c → ds[j]? = some d → us[j]? = some u → (idC c = none ∧ Rep g.S g.up w none d u) ∨ ∃ id, idC c = some id ∧ Rep g.S g.up w (some (.root id)) d u
  | [], ob, ds, us, h, ho, hu => by injection h with h; injection h with e1 e2; subst e2; exact ⟨rfl, fun j c d u q => by simp at q⟩
  | c :: l, ob, ds, us, h, ho, hu => by
    unfold fdL at h
    split at h
    · rename_i o1 d o2 ds' h1 h2
      injection h with h; injection h with e1 e2
      subst e1 e2
      obtain ⟨l1, l2⟩ := hu
      match us, l1 with
      | u :: us, l1 =>
        obtain ⟨i1, i2⟩ := fdL_ok hr l o2 ds' us h2 ho.2 ⟨by simpa using l1, fun j y u a b => l2 (j + 1) y u (by simpa using a) (by simpa using b)⟩
        refine ⟨by simp [i1], fun j c' d' u' q1 q2 q3 => ?_⟩
        cases j with
        | zero => simp at q1 q2 q3; subst q1 q2 q3; exact fdC_ok hr h1 ho.1 (l2 0 _ _ rfl rfl)
        | succ j => exact i2 j c' d' u' (by simpa using q1) (by simpa using q2) (by simpa using q3)
    · cases h
def aRows (σ : St) (k : Nat) : Nat → List (Nat × Operand) → Option (Prop × List (List D) × List D)
  | _, [] => some (True, [], [])
  | j, (i, x) :: rest => match cellsE (bodyT (ev σ x)) with
    | some xs => match fdL σ xs, aRows σ k (j + 1) rest with
      | some (o1, ds), some (ob, rs, raw) => some (oblT (ev σ x) ∧ i = j ∧ xs.length = k ∧ o1 ∧ ob, ds :: rs, xs ++ raw)
      | _, _ => none
    | none => none
theorem aRows_ok {x : Cx} {g : Gh} {σ : St} {a : Act} {w : World} (hr : Rel x g σ a w) {k : Nat} :
    ∀ (parts : List (Nat × Operand)) (j : Nat) (ob : Prop) (rs : List (List D)) (raw : List D), aRows σ k j parts = some (ob, rs, raw) → ob → ∀ (cs : Array Value), cs.size = (j + parts.length) * k →
      ∃ cs' vals, Instr.fill (fun i => some (i * k, k)) cs (parts.map fun p => (p.1, a.eval p.2)) = some cs' ∧ cs'.toList = cs.toList.take (j * k) ++ vals ∧ rs.length = parts.length ∧ vals.length = rs.length * k ∧ raw.length = rs.length * k ∧
        (∀ (i : Nat) (row : List D), rs[i]? = some row → row.length = k) ∧
        ∀ (i l : Nat) (row : List D) (d : D), rs[i]? = some row → row[l]? = some d → ∃ u c, vals[i * k + l]? = some u ∧ raw[i * k + l]? = some c ∧ ((idC c = none ∧ Rep g.S g.up w none d u) ∨ ∃ id, idC c = some id ∧ Rep g.S g.up w (some (.root id)) d u)
  | [], j, ob, rs, raw, h, ho, cs, hcs => by
    injection h with h; injection h with e1 e2; injection e2 with e2 e3
    subst e2 e3
    exact ⟨cs, [], rfl, by rw [List.append_nil, List.take_of_length_le (by rw [Array.length_toList, hcs]; simp)], rfl, by simp, by simp, by simp, by simp⟩
  | (i, y) :: rest, j, ob, rs, raw, h, ho, cs, hcs => by
    unfold aRows at h
    split at h
    · rename_i xs hx
      split at h
      · rename_i o1 ds ob' rs' raw' hf h'
        injection h with h; injection h with e1 e2; injection e2 with e2 e3
        subst e1 e2 e3
        obtain ⟨o1, rfl, o3, o4, o5⟩ := ho
        have hb := cellsE_ok hx (body_ok (ev_ok hr y) o1)
        obtain ⟨f1, f2⟩ := fdL_ok hr _ _ _ _ hf o4 hb
        have hvl : (a.eval y).cells.toList.length = k := by rw [hb.1, o3]
        have hvl' : (a.eval y).cells.size = k := by rw [← Array.length_toList]; exact hvl
        simp only [List.length_cons] at hcs
        have hle : i * k + k ≤ cs.size := by
          rw [hcs, show i * k + k = (i + 1) * k by rw [Nat.add_mul, Nat.one_mul]]; exact Nat.mul_le_mul_right _ (by omega)
        have hcl : cs.toList.length = cs.size := Array.length_toList
        have hll : (lay cs.toList (i * k) (a.eval y).cells.toList).length = cs.size := by rw [lay_len (by omega), hcl]
        obtain ⟨cs', vals, r1, r2, r3, r4, r5, r6, r7⟩ := aRows_ok hr rest (i + 1) ob' rs' raw' h' o5 (lay cs.toList (i * k) (a.eval y).cells.toList).toArray (by rw [List.size_toArray, hll, hcs]; congr 1; omega)
        have hsucc : ∀ q l, (q + 1) * k + l = k + (q * k + l) := fun q l => by rw [Nat.add_mul, Nat.one_mul]; omega
        refine ⟨cs', (a.eval y).cells.toList ++ vals, ?_, ?_, by simp [r3], by rw [List.length_append, hvl, r4, List.length_cons, Nat.add_mul, Nat.one_mul]; omega, by rw [List.length_append, o3, r5, List.length_cons, Nat.add_mul, Nat.one_mul]; omega, fun q row hq => ?_, fun q l row d hq hl => ?_⟩
        · rw [List.map_cons, fill_step (v := a.eval y) rfl hvl' hle]
          exact r1
        · rw [r2]
          unfold lay
          have t1 : (cs.toList.take (i * k)).length = i * k := by rw [List.length_take]; omega
          have t2 : (cs.toList.take (i * k) ++ (a.eval y).cells.toList).length = (i + 1) * k := by rw [List.length_append, t1, hvl, Nat.add_mul, Nat.one_mul]
          rw [← t2]
          simp only [List.toList_toArray]
          rw [List.take_left, List.append_assoc]
        · cases q with
          | zero => simp at hq; subst hq; rw [f1, o3]
          | succ q => exact r6 q row (by simpa using hq)
        · cases q with
          | zero =>
            simp at hq
            subst hq
            have hlt : l < k := by have := (List.getElem?_eq_some_iff.1 hl).1; omega
            have hc : xs[l]? = some (xs[l]'(by omega)) := List.getElem?_eq_getElem (by omega)
            have hu : (a.eval y).cells.toList[l]? = some ((a.eval y).cells.toList[l]'(by omega)) := List.getElem?_eq_getElem (by omega)
            refine ⟨_, _, ?_, ?_, f2 l _ d _ hc hl hu⟩
            · rw [Nat.zero_mul, Nat.zero_add, List.getElem?_append_left (by omega)]; exact hu
            · rw [Nat.zero_mul, Nat.zero_add, List.getElem?_append_left (by omega)]; exact hc
          | succ q =>
            obtain ⟨u, c, q1, q2, q3⟩ := r7 q l row d (by simpa using hq) hl
            refine ⟨u, c, ?_, ?_, q3⟩
            · rw [hsucc, List.getElem?_append_right (by omega), hvl, Nat.add_sub_cancel_left]; exact q1
            · rw [hsucc, List.getElem?_append_right (by omega), o3, Nat.add_sub_cancel_left]; exact q2
      · cases h
    · cases h
theorem lit_run {x : Cx} {g : Gh} {σ : St} {a : Act} {w : World} (hr : Rel x g σ a w) {t e k by_ len : Nat} {z : List D} (hk : tk x.P t = .sl e k by_ z) {o : Oper} {parts : Array (Nat × Operand)} (hop : o.op = .buildSlice t len parts) {ob' : Prop} {rows : List (List D)} {raw : List D} (h' : aRows σ k 0 parts.toList = some (ob', rows, raw)) (o1 : ob') (o2 : parts.toList.length = len) (o3 : len * k ≤ 16777216) :
    ∃ vals : List Value, rows.length ≤ maxLen ∧ vals.length = rows.length * k ∧ (∀ (i : Nat) (row : List D), rows[i]? = some row → row.length = k) ∧
      (∀ (i l : Nat) (row : List D) (d : D), rows[i]? = some row → row[l]? = some d → ∃ u c, vals[i * k + l]? = some u ∧ raw[i * k + l]? = some c ∧ ((idC c = none ∧ Rep g.S g.up w none d u) ∨ ∃ id, idC c = some id ∧ Rep g.S g.up w (some (.root id)) d u)) ∧
      (execOp a.eval o).run x.P w = .ok (.value (.slice (some ⟨w.heap.size, 0, none⟩) rows.length rows.length)) (w.alloc (.cells vals.toArray e)) := by
  obtain ⟨hu1, i, zv, q1, q2, q3, q4, q5, q6, q7, q8, -⟩ := tk_sl hk
  obtain ⟨cs', vals, r1, r2, r3, r4, r5, r6, r7⟩ := aRows_ok hr parts.toList 0 ob' rows raw h' o1 ((Array.range (len * k)).map (zv.cells[· % zv.cells.size]!)) (by rw [o2]; simp)
  rw [Nat.zero_mul, List.take_zero, List.nil_append] at r2
  refine ⟨vals, by rw [r3, o2]; unfold maxLen; have := Nat.le_mul_of_pos_right len q6; omega, r4, r6, r7, ?_⟩
  have hcs : cs' = vals.toArray := Array.ext' (by rw [r2])
  subst hcs
  have hlen : rows.length = len := by rw [r3, o2]
  have r1' : Instr.fill (fun i => some (i * k, k)) ((Array.range (len * k)).map (zv.cells[· % zv.cells.size]!)) (parts.map fun (i, x) => (i, a.eval x)).toList = some vals.toArray := by rw [← r1]; simp
  simp only [execOp, hop, Instr.buildSlice, Sem.run_bind, run_underlying hu1, Result.andThen_ok, tk_slice_len hk]
  rw [if_neg (by omega)]
  by_cases hz : len * k = 0
  · have hl0 : len = 0 := by
      rcases Nat.mul_eq_zero.1 hz with q | q
      · exact q
      · omega
    subst hl0
    have hp0 : parts.toList = [] := List.eq_nil_of_length_eq_zero o2
    have hp0' : parts = #[] := Array.ext' hp0
    subst hp0'
    have hv0 : vals = [] := List.eq_nil_of_length_eq_zero (by rw [r4, hlen]; simp)
    subst hv0
    simp [Instr.fill, newRow, hlen, go_sem]
  · rw [if_neg hz]
    have hzv : (zeroValue e).run x.P w = .ok zv w := by simp [zeroValue, typeInfo, q1, q2]
    simp only [Sem.run_bind, hzv, Sem.run_pure, Result.andThen_ok, r1']
    simp [newRow, hlen]
end Go.Proofs.YtgcdbmcoendcdaaGreat

namespace Go.Proofs.YtgcdbmcoendcdaaGreat
set_option linter.unusedVariables false
set_option linter.unusedSimpArgs false
open Go.RowKit
theorem scC_scC {q1 q2 : Nat → Bool} (h : ∀ i, q2 i = true → q1 i = true) (y : D) : scC q2 (scC q1 y) = scC q2 y := by
  cases y with
  | bx id o => by_cases hq : q1 id = true <;> simp [scC, hq] <;> (cases hr : q2 id <;> first | rfl | exact absurd (h _ hr) hq)
  | el id k i o => by_cases hq : q1 id = true <;> simp [scC, hq] <;> (cases hr : q2 id <;> first | rfl | exact absurd (h _ hr) hq)
  | bs id k n => by_cases hq : q1 id = true <;> simp [scC, hq] <;> (cases hr : q2 id <;> first | rfl | exact absurd (h _ hr) hq)
  | _ => rfl
theorem scC_scC_map {q1 q2 : Nat → Bool} (h : ∀ i, q2 i = true → q1 i = true) (l : List D) : (l.map (scC q1)).map (scC q2) = l.map (scC q2) := by
  rw [List.map_map]; exact List.map_congr_left fun y _ => scC_scC h y
theorem scE_scE {q1 q2 : Nat → Bool} (h : ∀ i, q2 i = true → q1 i = true) (y : D) : scE q2 (scE q1 y) = scE q2 y := by
  have hcc := scC_scC h
  cases y with
  | ag xs => simp only [scE, scC_scC_map h]
  | bx id o => have := hcc (.bx id o); by_cases hq : q1 id = true <;> simp only [scE, scC, hq, if_true, if_false, Bool.false_eq_true] at this ⊢ <;> exact this
  | el id k i o => have := hcc (.el id k i o); by_cases hq : q1 id = true <;> simp only [scE, scC, hq, if_true, if_false, Bool.false_eq_true] at this ⊢ <;> exact this
  | bs id k n => have := hcc (.bs id k n); by_cases hq : q1 id = true <;> simp only [scE, scC, hq, if_true, if_false, Bool.false_eq_true] at this ⊢ <;> exact this
  | _ => rfl
theorem scT_e {q : Nat → Bool} {y : D} (h1 : ∀ xs, y ≠ .tup xs) (h2 : ∀ c x, y ≠ .mb c x) : scT q y = scE q y := by
  cases y <;> first | rfl | exact absurd rfl (h1 _) | exact absurd rfl (h2 _ _)
theorem scE_ne {q : Nat → Bool} (y : D) (h1 : ∀ xs, y ≠ .tup xs) (h2 : ∀ c x, y ≠ .mb c x) : (∀ xs, scE q y ≠ .tup xs) ∧ ∀ c x, scE q y ≠ .mb c x := by
  cases y <;> first | exact absurd rfl (h1 _) | exact absurd rfl (h2 _ _) | (simp only [scE, scC]; first | (split <;> exact ⟨fun _ => (by simp), fun _ _ => (by simp)⟩) | exact ⟨fun _ => (by simp), fun _ _ => (by simp)⟩)
theorem scT_scT {q1 q2 : Nat → Bool} (h : ∀ i, q2 i = true → q1 i = true) (y : D) : scT q2 (scT q1 y) = scT q2 y := by
  by_cases h1 : ∀ xs, y ≠ .tup xs
  · by_cases h2 : ∀ c x, y ≠ .mb c x
    · obtain ⟨n1, n2⟩ := scE_ne (q := q1) y h1 h2
      rw [scT_e h1 h2, scT_e n1 n2, scE_scE h, scT_e h1 h2]
    · simp only [ne_eq, Classical.not_forall, Classical.not_not] at h2
      obtain ⟨c, x, rfl⟩ := h2
      simp only [scT, scE_scE h]
  · simp only [ne_eq, Classical.not_forall, Classical.not_not] at h1
    obtain ⟨xs, rfl⟩ := h1
    simp only [scT, List.map_map]
    congr 1
    exact List.map_congr_left fun y _ => scE_scE h y
theorem scO_scO {q1 q2 : Nat → Bool} (h : ∀ i, q2 i = true → q1 i = true) (o : Ob) : scO q2 (scO q1 o) = scO q2 o := by
  cases o with
  | box row => simp only [scO, scC_scC_map h]
  | arr e k rows => rfl
  | hol e k rows i c r => simp only [scO, scC_scC h]
theorem void_sc (σ : St) (d : Nat) (ids : List Nat) (o1 o : Ob) : (((σ.sc (pOut [d]) (pOut [d])).setB d o1).sc (pOut (d :: ids)) (pOut (d :: ids))).setB d o = (σ.sc (pOut (d :: ids)) (pOut (d :: ids))).setB d o := by
  have hq : ∀ i, pOut (d :: ids) i = true → pOut [d] i = true := fun i hi => by
    simp only [pOut, Bool.and_eq_true] at hi ⊢; exact ⟨hi.1, trivial⟩
  unfold St.setB St.sc
  congr 1
  · funext i; exact scT_scT hq _
  · funext i
    by_cases e : i = d
    · simp [e]
    · simp only [if_neg e]
      by_cases hr : pOut (d :: ids) i = true
      · rw [if_pos hr, if_pos hr, if_pos (hq i hr)]
        cases σ.b i with
        | none => rfl
        | some o' => simp only [Option.map_some]; rw [scO_scO hq]
      · rw [if_neg hr, if_neg hr]
theorem Rel.forget {x : Cx} {g : Gh} {σ : St} {a : Act} {w : World} (h : Rel x g σ a w) (l : List Nat) : Rel x g (σ.sc (pOut l) (pOut l)) a w := by
  have ev : Ev (fun _ => True) (fun p => p) (pOut l) (pOut l) g g w w := ⟨⟨fun b hb => ⟨hb, rfl⟩, fun b p hb _ => ⟨hb, rfl⟩, fun b p o _ _ => ⟨trivial, rfl⟩⟩, fun i hi => ⟨rfl, rfl⟩, fun i hi => ⟨hi, trivial, rfl⟩⟩
  exact h.ev ev (Below.refl _ _) (fun b _ _ => rfl) (fun b _ hs => .inl hs) h.new h.own
def srcK (σ : St) (k : Nat) : D → Option (Prop × List (List D) × List Nat)
  | .nil => some (True, [], [])
  | .sl k' rows => some (k' = k, rows, [])
  | .bs id k' n => match σ.b id with
    | some (.arr _ k'' rows) => some (k' = k ∧ k'' = k ∧ n ≤ rows.length, rows.take n, [id])
    | _ => none
  | _ => none
theorem srcK_ok {x : Cx} {g : Gh} {σ : St} {a : Act} {w : World} (hr : Rel x g σ a w) {k : Nat} (hk : 0 < k) {y : D} {ob : Prop} {rows : List (List D)} {ids : List Nat} (h : srcK σ k y = some (ob, rows, ids)) (ho : ob) {u : Value} (hu : RE g w y u) :
    ∃ ad c, u = .slice ad rows.length c ∧ (0 < rows.length → ∃ p vals src, ad = some p ∧ Src g w k rows vals src ∧ (∀ b, src = some b → ∃ m ∈ ids, g.up b = some (.root m)) ∧ ∀ j v, vals[j]? = some v → w.cell? (p.add j) = some v) := by
  unfold srcK at h
  split at h
  · injection h with h; injection h with e1 e2; injection e2 with e2 e3
    subst e2 e3
    have hu : Rep g.S g.up w none .nil u := hu
    cases hu
    exact ⟨none, 0, rfl, fun q => by simp at q⟩
  · injection h with h; injection h with e1 e2; injection e2 with e2 e3
    subst e1 e2 e3
    obtain rfl := ho
    have hu : Rep g.S g.up w none (.sl _ _) u := hu
    obtain ⟨ad, c, rfl, -, -⟩ := hu.sl_shape
    refine ⟨ad, c, rfl, fun hn => ?_⟩
    obtain ⟨p, vals, rfl, -, hS, hc⟩ := hu.vals hk hn
    exact ⟨p, vals, none, rfl, hS, fun b q => (by cases q), hc⟩
  · rename_i id k' n
    split at h
    · rename_i e k'' rows' hb
      injection h with h; injection h with e1 e2; injection e2 with e2 e3
      subst e1 e2 e3
      obtain ⟨rfl, rfl, hn⟩ := ho
      obtain ⟨rfl, u1, u2, u3⟩ := hu
      have hl : (rows'.take n).length = n := by rw [List.length_take]; omega
      refine ⟨_, _, by rw [hl], fun hp => ?_⟩
      have hR : Rep g.S g.up w (some (.root id)) (.osl e k'' (rows'.take n)) (.slice ((g.β id).map fun b => ⟨b, 0, none⟩) n (g.κ id)) := Rep.osl_take (hr.ob id _ hb) n hn
      cases hβ : g.β id with
      | none => have := u3 hβ; omega
      | some b =>
        rw [hβ, Option.map_some] at hR
        obtain ⟨h1, vals, h2, h3⟩ := hR.ovals hl.symm
        exact ⟨_, vals, some b, rfl, h2, fun b' q => by injection q with q; subst q; exact ⟨id, by simp, h1⟩, h3⟩
    · cases h
  · cases h
theorem Rel.append {x : Cx} {g : Gh} {σ : St} {a : Act} {w : World} (h : Rel x g σ a w) {t ty e k by_ : Nat} {z : List D} (hk : tk x.P t = .sl e k by_ z) {id n : Nat} {rows rows' : List (List D)} {ids : List Nat} (hb : σ.b id = some (.arr e k rows)) (hn : n ≤ rows.length) (hid : pOut ids id = true) (nid : Nat) (hnP : isP nid = false) {ad : Option Addr} {c : Nat}
    (hs : 0 < rows'.length → ∃ p vals src, ad = some p ∧ Src g w k rows' vals src ∧ (∀ b, src = some b → ∃ m ∈ ids, g.up b = some (.root m)) ∧ ∀ j v, vals[j]? = some v → w.cell? (p.add j) = some v)
    (hroom : (n + rows'.length) * by_ ≤ 140737488355328) (hmax : n + rows'.length ≤ maxLen) {v : Value} (hv : RC g w none (.bs id k n) v) :
    ∃ v' w' g', (Builtin.append_ #[t, t] ty #[v, .slice ad rows'.length c]).run x.P w = .ok v' w' ∧ Rel x g' ((σ.sc (pOut (nid :: id :: ids)) (pOut (nid :: id :: ids))).setB nid (.arr e k (rows.take n ++ rows'))) a w' ∧ RC g' w' none (.bs nid k (n + rows'.length)) v' := by
  rcases Nat.eq_zero_or_pos rows'.length with hm | hm
  · have hr0 : rows' = [] := List.eq_nil_of_length_eq_zero hm
    subst hr0
    obtain ⟨ht, i, zv, hi, hz, hsz, hby, hzs, hk0, hz1, -, -⟩ := tk_sl hk
    obtain ⟨rfl, v1, v2, v3⟩ := hv
    have hrun := run_append_zero w t ty e i ht hi ((g.β id).map fun b => ⟨b, 0, none⟩) n (g.κ id) v1 ad c
    have hR0 : Rep g.S g.up w (some (.root id)) (.osl e k rows) (.slice ((g.β id).map fun b => ⟨b, 0, none⟩) rows.length (g.κ id)) := h.ob id _ hb
    cases hβ : g.β id with
    | none =>
      have hκ := v3 hβ
      have hn0 : n = 0 := by omega
      subst hn0
      rw [hβ, hκ] at hrun
      obtain ⟨g1, n1, n2, n3, n4, n5⟩ := h.void nid e k hnP
      have h2 := (n4.forget (nid :: id :: ids)).setB (id := nid) (o := .arr e k []) (n4.ob nid _ (by simp [St.setB])) (fun q => by rw [hnP] at q; cases q)
      rw [void_sc] at h2
      refine ⟨_, w, g1, by simpa [hκ] using hrun, by simpa using h2, n5⟩
    | some bo =>
      rw [hβ, Option.map_some] at hR0 hrun
      cases hR0 with
      | @osl _ _ _ _ _ _ cs q1 q2 q3 q4 q5 q6 q7 =>
        obtain ⟨g', r1, r2⟩ := h.regrow (rows' := []) (vals := []) (src := none) (ids := ids) hb hn (fun q => pOut_spec hid id q rfl) nid hnP (fun b q => (by cases q)) ⟨by simp, by simp, by simp⟩ bo cs (g.κ id) (.inr hβ) (fun _ _ _ => rfl) (Below.refl _ _) (h.own bo _ q1).1 q2 (by simpa using v1) v2 q5 (fun b cs0 hb' hc0 j _ => by
          rw [hβ] at hb'; injection hb' with hb'; subst hb'
          rw [q2] at hc0; injection hc0 with hc0; injection hc0 with hc0; subst hc0; rfl) (fun j u hj => by simp at hj)
        exact ⟨_, w, g', hrun, r1, r2⟩
  · obtain ⟨p, vals, src, rfl, hS, hsrc, hc⟩ := hs hm
    exact h.appendPos hk hb hn (fun q => pOut_spec hid id q rfl) nid hnP hsrc hS p c hc hm hroom hmax hv
def nmA (d id : Nat) : Nat := if isP id = true then d else id
def aop2 (P : Program) (σ : St) (dst : Option Tmp) : Op → Option (Prop × D × St)
  | .alloc t => match dst, ck P t with
    | some d, some (_, _, z) => some (True, .bx d 0, (σ.sc (pOut [d]) (pOut [d])).setB d (.box z))
    | _, _ => none
  | .box t x => match dst, cellsE (bodyT (ev σ x)) with
    | some d, some row => some (oblT (ev σ x), .bx d 0, (σ.sc (pOut [d]) (pOut [d])).setB d (.box (row.map (scC (pOut [d])))))
    | _, _ => none
  | .store t p v => match dst, cellsE (bodyT (ev σ v)), ck P t with
    | none, some xs, some (_, n, _) => match bodyT (ev σ p) with
      | .bx id off => match σ.b id with
        | some (.box row) => some (oblT (ev σ p) ∧ oblT (ev σ v) ∧ xs.length = n ∧ off + xs.length ≤ row.length, .un, σ.setB id (.box (lay row off xs)))
        | _ => none
      | .el id k i off => match σ.b id, fdL σ xs with
        | some (.arr e k' rows), some (ob, ds) => some (oblT (ev σ p) ∧ oblT (ev σ v) ∧ k' = k ∧ xs.length = n ∧ off + xs.length ≤ k ∧ i < rows.length ∧ ob ∧ nodB (idsC xs) = true ∧ pOut (idsC xs) id = true,
            .un, (σ.sc (pOut (idsC xs)) (pOut (idsC xs))).setB id (.arr e k (rows.set i (lay (rows.getD i []) off ds))))
        | some (.hol e k' rows i0 c0 _), some _ => match xs with
          | [d] => some (oblT (ev σ p) ∧ oblT (ev σ v) ∧ k' = k ∧ n = 1 ∧ i = i0 ∧ off = c0, .un, σ.setB id (.hol e k' rows i0 c0 d))
          | _ => none
        | _, _ => none
      | _ => none
    | _, _, _ => none
  | .build t parts => match aBuild P σ t parts with
    | some (ob, y) => some (ob, y, σ)
    | none => none
  | .makeSlice t l c => match dst, tk P t, intE (bodyT (ev σ l)), intE (bodyT (ev σ c)) with
    | some d, .sl e k by_ z, some (_, n), some (_, m) => some (oblT (ev σ l) ∧ oblT (ev σ c) ∧ m = n ∧ 0 ≤ n ∧ by_ * n ≤ 281474976710656 ∧ n ≤ 281474976710656,
        .bs d k n.toNat, (σ.sc (pOut [d]) (pOut [d])).setB d (.arr e k (List.replicate n.toNat z)))
    | _, _, _, _ => none
  | .buildSlice t len parts => match dst, tk P t with
    | some d, .sl e k _ _ => match aRows σ k 0 parts.toList with
      | some (ob, rows, raw) => some (ob ∧ parts.toList.length = len ∧ len * k ≤ 16777216 ∧ nodB (idsC raw) = true, .bs d k rows.length, (σ.sc (pOut (d :: idsC raw)) (pOut (d :: idsC raw))).setB d (.arr e k rows))
      | none => none
    | _, _ => none
  | .call ⟨.builtin .append, args, ts⟩ => match dst, args.toList, ts.toList with
    | some d, [s, x], [t, t'] => match tk P t with
      | .sl e k by_ _ => match srcK σ k (bodyT (ev σ x)) with
        | some (ob, rows', ids) => match bodyT (ev σ s) with
          | .bs id k' n => match σ.b id with
            | some (.arr e' k'' rows) => some (t' = t ∧ oblT (ev σ s) ∧ oblT (ev σ x) ∧ e' = e ∧ k' = k ∧ k'' = k ∧ n ≤ rows.length ∧ ob ∧ pOut ids id = true ∧ (n + rows'.length) * by_ ≤ 140737488355328 ∧ n + rows'.length ≤ 140737488355328,
                .bs (nmA d id) k (n + rows'.length), (σ.sc (pOut (nmA d id :: id :: ids)) (pOut (nmA d id :: id :: ids))).setB (nmA d id) (.arr e k (rows.take n ++ rows')))
            | _ => none
          | .nil => some (t' = t ∧ oblT (ev σ s) ∧ oblT (ev σ x) ∧ ob ∧ pOut ids d = true ∧ rows'.length * by_ ≤ 140737488355328 ∧ rows'.length ≤ 140737488355328,
                .bs d k rows'.length, (σ.sc (pOut (d :: ids)) (pOut (d :: ids))).setB d (.arr e k rows'))
          | _ => none
        | none => none
      | _ => none
    | _, _, _ => none
  | _ => none
theorem RC.scOut {g : Gh} {w : World} {l : List Nat} {p : Option Pos} {y : D} {v : Value} (h : RC g w p y v) : RC g w p (scC (pOut l) y) v := by
  have one := h.one
  cases y <;> first | exact h | (simp only [scC]; split; exact h; exact one)
theorem aop2_ok {x : Cx} {σ σ' : St} {o : Oper} {ob : Prop} {y : D} (h : aop2 x.P σ o.dst o.op = some (ob, y, σ')) (ho : ob) (hdP : ∀ d, o.dst = some d → isP d = false) {g : Gh} {a : Act} {w : World} (hr : Rel x g σ a w) :
    ∃ w' g', Rel x g' σ' a w' ∧ ((∃ r, (execOp a.eval o).run x.P w = .ok (.value r) w' ∧ RT g' w' y r) ∨ ((execOp a.eval o).run x.P w = .ok .skip w' ∧ y = .un)) := by
  have hev := ev_ok hr
  have hb : ∀ z, oblT (ev σ z) → RE g w (bodyT (ev σ z)) (a.eval z) := fun z hz => body_ok (hev z) hz
  unfold aop2 at h
  split at h
  · rename_i t hop
    split at h
    · rename_i d ag n z hd hk
      injection h with h; injection h with e1 e2; injection e2 with e2 e3
      subst e2 e3
      obtain ⟨-, ⟨i, zv, h1, h2, h3, h4, h5, h6⟩, -⟩ := ck_spec hk
      subst h6
      obtain ⟨g', q1, q2⟩ := hr.newBox d (zv.cells.toList.map dv) zv.cells.toList t (dv_RCs _ _ _ h5) (fun y hy => by
        obtain ⟨u, -, rfl⟩ := List.mem_map.1 hy
        unfold dv
        split <;> rfl) (hdP d hd)
      refine ⟨_, g', q1, .inl ⟨.pointer (some ⟨w.heap.size, 0, none⟩), ?_, (show RC g' _ none (.bx d 0) _ from ⟨_, q2, rfl⟩).re.rt⟩⟩
      simp [execOp, hop, Instr.alloc, zeroValue, typeInfo, h1, h3, newVar, newRow]
    · cases h
  · rename_i t z hop
    split at h
    · rename_i d row hd hc
      injection h with h; injection h with e1 e2; injection e2 with e2 e3
      subst e1 e2 e3
      have hrow := cellsE_ok hc (hb z ho)
      obtain ⟨g', q1, q2⟩ := hr.newBox d (row.map (scC (pOut [d]))) (a.eval z).cells.toList t ⟨by simp [hrow.1], fun j y u hy hu => by
        rw [List.getElem?_map] at hy
        obtain ⟨y', h1, rfl⟩ := Option.map_eq_some_iff.1 hy
        exact (hrow.2 j y' u h1 hu).scOut⟩ (fun y hy => by
        obtain ⟨u, -, rfl⟩ := List.mem_map.1 hy
        exact scC_scC (fun _ h => h) u) (hdP d hd)
      refine ⟨_, g', q1, .inl ⟨.pointer (some ⟨w.heap.size, 0, none⟩), ?_, (show RC g' _ none (.bx d 0) _ from ⟨_, q2, rfl⟩).re.rt⟩⟩
      simp [execOp, hop, Instr.box, newVar, newRow]
    · cases h
  · rename_i t p v hop
    split at h
    · rename_i xs ag n z hd hv hk
      have run : ∀ {b i : Nat} {w' : World}, a.eval p = .pointer (some ⟨b, i, none⟩) → (a.eval v).cells.toList.length = n → (storeCells ⟨b, i, none⟩ (a.eval v).cells.toList).run x.P w = .ok () w' → (execOp a.eval o).run x.P w = .ok .skip w' := by
        intro b i w' h1 h2 h3
        simp only [execOp, hop, Instr.storeAt, h1, Instr.sureAddr, Sem.run_bind, Sem.run_pure, Result.andThen_ok, storeVar, ck_size hk]
        rw [if_neg (by simpa using h2), h3]; rfl
      split at h
      · rename_i id off hp
        split at h
        · rename_i row hrow
          injection h with h; injection h with e1 e2; injection e2 with e2 e3
          subst e1 e2 e3
          obtain ⟨o1, o2, o3, o4⟩ := ho
          have hp' := hb p o1
          rw [hp] at hp'
          obtain ⟨b, hβ, hp'⟩ := hp'
          have hxs := cellsE_ok hv (hb v o2)
          obtain ⟨w', s1, s2⟩ := hr.store id off row xs hrow _ hxs o4 hβ
          exact ⟨w', g, s2, .inr ⟨run hp' (by rw [hxs.1, o3]) s1, rfl⟩⟩
        · cases h
      · rename_i id k i off hp
        split at h
        · rename_i e k' rows ob' ds hrow hf
          injection h with h; injection h with e1 e2; injection e2 with e2 e3
          subst e1 e2 e3
          obtain ⟨o1, o2, rfl, o3, o4, o5, o6, o7, o8⟩ := ho
          have hp' := hb p o1
          rw [hp] at hp'
          obtain ⟨b, hβ, hp'⟩ := hp'
          have hxs := cellsE_ok hv (hb v o2)
          obtain ⟨f1, f2⟩ := fdL_ok hr _ _ _ _ hf o6 hxs
          obtain ⟨w', g', s1, s2⟩ := hr.storeArr id e k' i off rows ds hrow (a.eval v).cells.toList (idsC xs) (tgtC xs) o5 (by omega) (fun q => pOut_spec o8 id q rfl) (by rw [hxs.1, f1]) (fun j y u hy hu => by
            have hj : j < xs.length := by rw [← f1]; exact (List.getElem?_eq_some_iff.1 hy).1
            rcases f2 j xs[j] y u (List.getElem?_eq_getElem hj) hy hu with ⟨-, q⟩ | ⟨m, q1, q2⟩
            · exact .inl q
            · exact .inr ⟨m, idsC_mem (List.getElem?_eq_getElem hj) q1, tgtC_at o7 (List.getElem?_eq_getElem hj) q1, q2⟩) hβ
          exact ⟨w', g', s2, .inr ⟨run hp' (by rw [hxs.1, o3]) s1, rfl⟩⟩
        · rename_i e k' rows i0 c0 r _ hrow hf
          split at h
          · rename_i dd
            injection h with h; injection h with e1 e2; injection e2 with e2 e3
            subst e1 e2 e3
            obtain ⟨o1, o2, rfl, rfl, rfl, rfl⟩ := ho
            have hp' := hb p o1
            rw [hp] at hp'
            obtain ⟨b, hβ, hp'⟩ := hp'
            have hxs := cellsE_ok hv (hb v o2)
            obtain ⟨w', s1, s2⟩ := hr.storeHol id e k' i off rows r dd hrow _ hxs hβ
            exact ⟨w', g, s2, .inr ⟨run hp' (by rw [hxs.1]; rfl) s1, rfl⟩⟩
          · cases h
        · cases h
      · cases h
    · cases h
  · rename_i t parts hop
    split at h
    · rename_i ob' y' h'
      injection h with h; injection h with e1 e2; injection e2 with e2 e3
      subst e1 e2 e3
      obtain ⟨r, r1, r2⟩ := aBuild_ok hr h' ho
      refine ⟨w, g, hr, .inl ⟨r, ?_, r2.rt⟩⟩
      simp only [execOp, hop, Sem.run_bind, r1]; rfl
    · cases h
  · rename_i t l c hop
    split at h
    · rename_i d e k by_ z kl n kc m hd hk hl hc
      injection h with h; injection h with e1 e2; injection e2 with e2 e3
      subst e1 e2 e3
      obtain ⟨o1, o2, rfl, o4, o5, o6⟩ := ho
      obtain ⟨hu1, i, zv, q1, q2, q3, q4, q5, q6, q7, q8, -⟩ := tk_sl hk
      have el := intE_ok hl (hb l o1)
      have ec := intE_ok hc (hb c o2)
      have hrun := run_make (P := x.P) w t e i zv hu1 q1 q2 kl kc m m o4 (Int.le_refl _) (by rw [q4]; exact o5) (by omega)
      obtain ⟨g', r1, r2⟩ := hr.newArr (.inl rfl) d e k (List.replicate m.toNat z) (madeCells zv.cells (m.toNat * i.size)) m.toNat [] (fun _ => 0) (by simp) (by unfold maxLen; omega) (by simp [madeCells, q3]) (hdP d hd) (fun i row hi => by
        rw [List.getElem?_replicate] at hi
        split at hi
        · injection hi with hi; subst hi; rw [q8]; simpa using q5
        · cases hi) (fun i' j row y' hi hj => by
        rw [List.getElem?_replicate] at hi
        split at hi
        · rename_i hlt
          injection hi with hi; subst hi
          left
          rw [q8, List.getElem?_map] at hj
          obtain ⟨u, hu, rfl⟩ := Option.map_eq_some_iff.1 hj
          have hjk : j < k := by rw [← q5, ← Array.length_toList]; exact (List.getElem?_eq_some_iff.1 hu).1
          have hlt' : i' * k + j < m.toNat * k := by
            have : (i' + 1) * k ≤ m.toNat * k := Nat.mul_le_mul_right _ hlt
            rw [Nat.add_mul, Nat.one_mul] at this; omega
          have : (madeCells zv.cells (m.toNat * i.size)).getD (i' * k + j) undef = u := by
            rw [q3, Array.getD_eq_getD_getElem?]
            simp only [madeCells, Array.getElem?_map]
            rw [Array.getElem?_range, if_pos hlt']
            simp only [Option.map_some, Option.getD_some, q5]
            rw [Nat.add_comm, Nat.add_mul_mod_self_right, Nat.mod_eq_of_lt hjk, getElem!_pos zv.cells j (by omega)]
            rw [Array.getElem?_toList, Array.getElem?_eq_getElem (by omega)] at hu
            injection hu
          rw [this]
          exact dv_rep _ (q7 u (List.mem_of_getElem? hu))
        · cases hi)
      rw [List.length_replicate] at r2
      refine ⟨_, g', r1, .inl ⟨_, ?_, r2.re.rt⟩⟩
      simp only [execOp, hop, el, ec, Sem.run_bind, hrun, Result.andThen_ok, Sem.run_pure]
    · cases h
  · rename_i t len parts hop
    split at h
    · rename_i d e k by_ z hd hk
      split at h
      · rename_i ob' rows raw h'
        injection h with h; injection h with e1 e2; injection e2 with e2 e3
        subst e1 e2 e3
        obtain ⟨o1, o2, o3, o4⟩ := ho
        obtain ⟨vals, r1, r2, r3, r4, r5⟩ := lit_run hr hk hop h' o1 o2 o3
        obtain ⟨g', l1, l2⟩ := hr.newArr (.inl rfl) d e k rows vals.toArray rows.length (idsC raw) (tgtC raw) (Nat.le_refl _) r1 (by simpa using r2) (hdP d hd) r3 (fun i j row y' hi hj => by
          obtain ⟨u, c, q1, q2, q3⟩ := r4 i j row y' hi hj
          rw [getD_toList (u := u) (by simpa using q1)]
          rcases q3 with ⟨-, q3⟩ | ⟨m, q3, q4⟩
          · exact .inl q3
          · exact .inr ⟨m, idsC_mem q2 q3, tgtC_at o4 q2 q3, q4⟩)
        exact ⟨_, g', l1, .inl ⟨_, r5, l2.re.rt⟩⟩
      · cases h
    · cases h
  · rename_i args ts hop
    split at h
    · rename_i d s z t t' hd ha ht
      have ea : args = #[s, z] := Array.ext' ha
      have et : ts = #[t, t'] := Array.ext' ht
      subst ea et
      split at h
      · rename_i e k by_ zz hk
        split at h
        · rename_i ob' rows' ids hx
          have hk0 : 0 < k := by obtain ⟨_, i, zv, _, _, _, _, _, hk0, _⟩ := tk_sl hk; exact hk0
          split at h
          · rename_i id k' n hs
            split at h
            · rename_i e' k'' rows hrow
              injection h with h; injection h with e1 e2; injection e2 with e2 e3
              subst e1 e2 e3
              obtain ⟨rfl, o1, o2, rfl, rfl, rfl, o3, o4, o5, o6, o7⟩ := ho
              have hs' := hb s o1
              rw [hs] at hs'
              obtain ⟨ad, c, hu, hsr⟩ := srcK_ok hr hk0 hx o4 (hb z o2)
              obtain ⟨v', w', g', r1, r2, r3⟩ := hr.append (ty := o.type) hk hrow o3 o5 (nmA d id) (by unfold nmA; split; exact hdP d hd; simp_all) (c := c) hsr o6 (by unfold maxLen; omega) hs'
              refine ⟨w', g', r2, .inl ⟨v', ?_, r3.re.rt⟩⟩
              simp only [execOp, hop, resolve, invoke, builtin, Sem.run_bind, Sem.run_pure, Result.andThen_ok, List.map_toArray, List.map_cons, List.map_nil]
              rw [hu, r1]; rfl
            · cases h
          · rename_i hs
            injection h with h; injection h with e1 e2; injection e2 with e2 e3
            subst e1 e2 e3
            obtain ⟨rfl, o1, o2, o4, o5, o6, o7⟩ := ho
            have hs' := hb s o1
            rw [hs] at hs'
            have hs' : a.eval s = .slice none 0 0 := by
              have : Rep g.S g.up w none .nil (a.eval s) := hs'
              generalize a.eval s = v at this
              cases this; rfl
            obtain ⟨ad, c, hu, hsr⟩ := srcK_ok hr hk0 hx o4 (hb z o2)
            obtain ⟨g1, n1, n2, n3, n4, n5⟩ := hr.void d e k (hdP d hd)
            obtain ⟨v', w', g', r1, r2, r3⟩ := n4.append (ty := o.type) (n := 0) (rows := []) (ids := ids) (c := c) (ad := ad) (rows' := rows') hk (by simp [St.setB]) (Nat.zero_le _) o5 d (hdP d hd) (fun hp => by
              obtain ⟨p, vals, src, p1, p2, p3, p4⟩ := hsr hp
              exact ⟨p, vals, src, p1, by unfold Src; rw [n1, n2]; exact p2, by rw [n2]; exact p3, p4⟩) (by simpa using o6) (by unfold maxLen; omega) n5
            rw [show pOut (d :: d :: ids) = pOut (d :: ids) by funext i; simp [pOut], void_sc, List.take_nil, List.nil_append] at r2
            rw [Nat.zero_add] at r3
            refine ⟨w', g', r2, .inl ⟨v', ?_, r3.re.rt⟩⟩
            simp only [execOp, hop, resolve, invoke, builtin, Sem.run_bind, Sem.run_pure, Result.andThen_ok, List.map_toArray, List.map_cons, List.map_nil, hs']
            rw [hu, r1]; rfl
          · cases h
        · cases h
      · cases h
    · cases h
  · cases h
end Go.Proofs.YtgcdbmcoendcdaaGreat

namespace Go.Proofs.YtgcdbmcoendcdaaGreat
set_option linter.unusedVariables false
set_option linter.unusedSimpArgs false
open Go.RowKit
def u8R (b : UInt8) : List D := [.s (.int .u8 b.toNat)]
theorem u8R_eq (b : UInt8) : u8R b = [.s (.int .u8 b.toNat)] := rfl
def strR (s : ByteArray) : List (List D) := s.data.toList.map u8R
theorem strR_len (s : ByteArray) : (strR s).length = s.size := by unfold strR; rw [List.length_map, Array.length_toList]; rfl
def rowB : List D → UInt8
  | [.s (.int .u8 n)] => UInt8.ofNat n.toNat
  | _ => 0
theorem rowB_u8 (b : UInt8) : rowB (u8R b) = b := by simp [rowB, u8R]
def rowsB (rows : List (List D)) : ByteArray := ⟨(rows.map rowB).toArray⟩
theorem rowsB_map (l : List UInt8) : rowsB (l.map u8R) = ⟨l.toArray⟩ := by
  unfold rowsB
  rw [List.map_map]
  congr 2
  conv => rhs; rw [← List.map_id l]
  exact List.map_congr_left fun b _ => rowB_u8 b
theorem strSrc {g : Gh} {w : World} (s : ByteArray) : Src g w 1 (strR s) (Lib.strCells s) none := by
  refine ⟨by rw [Lib.strCells_length, strR_len]; omega, fun i row h => ?_, fun i j row d h1 h2 => ?_⟩
  · unfold strR at h
    rw [List.getElem?_map] at h
    obtain ⟨b, -, rfl⟩ := Option.map_eq_some_iff.1 h
    rfl
  · unfold strR at h1
    rw [List.getElem?_map] at h1
    obtain ⟨b, hb, rfl⟩ := Option.map_eq_some_iff.1 h1
    match j, h2 with
    | 0, h2 =>
      have : D.s (.int .u8 b.toNat) = d := by simpa [u8R] using h2
      subst this
      refine ⟨.int .u8 b.toNat, ?_, .inl (.i _ _)⟩
      unfold Lib.strCells
      rw [Nat.mul_one, Nat.add_zero, List.getElem?_map, hb]; rfl
    | j + 1, h2 => simp [u8R] at h2
theorem strCells_arr (s : ByteArray) : s.data.map (fun b => Value.int .u8 b.toNat) = (Lib.strCells s).toArray := by
  apply Array.ext'
  simp [Lib.strCells]
theorem run_append_zero_str {P : Program} (w : World) (t u ty e : TypeId) (i : TypeInfo) (ht : P.underlying t = some (.slice e)) (hu : P.underlying u = some .string) (hi : P.info? e = some i) (s : ByteArray) (hs : s.size = 0) :
    (Builtin.append_ #[t, u] ty #[.slice none 0 0, .string s]).run P w = .ok (.slice none 0 0) w := by
  have hd : s.data = #[] := by
    have : s.data.size = 0 := hs
    exact Array.eq_empty_of_size_eq_zero this
  simp [Builtin.append_, run_underlying ht, run_underlying hu, sizeOf, typeInfo, hi, Builtin.lenOf, Builtin.firstCells, hs, hd]
theorem Rel.appendStr {x : Cx} {g : Gh} {σ : St} {a : Act} {w : World} (h : Rel x g σ a w) {t u ty e by_ : Nat} {z : List D} (hk : tk x.P t = .sl e 1 by_ z) (hu : x.P.underlying u = some .string) {id n : Nat} {rows : List (List D)} (s : ByteArray) (hb : σ.b id = some (.arr e 1 rows)) (hn : n ≤ rows.length) (nid : Nat) (hnP : isP nid = false)
    (hroom : (n + s.size) * by_ ≤ 140737488355328) (hmax : n + s.size ≤ maxLen) {v : Value} (hv : RC g w none (.bs id 1 n) v) :
    ∃ v' w' g', (Builtin.append_ #[t, u] ty #[v, .string s]).run x.P w = .ok v' w' ∧ Rel x g' ((σ.sc (pOut [nid, id]) (pOut [nid, id])).setB nid (.arr e 1 (rows.take n ++ strR s))) a w' ∧ RC g' w' none (.bs nid 1 (n + s.size)) v' := by
  obtain ⟨ht, i, zv, hi, hz, hsz, hby, hzs, hk0, hz1, -, -⟩ := tk_sl hk
  obtain ⟨rfl, v1, v2, v3⟩ := hv
  have hR0 : Rep g.S g.up w (some (.root id)) (.osl e 1 rows) (.slice ((g.β id).map fun b => ⟨b, 0, none⟩) rows.length (g.κ id)) := h.ob id _ hb
  have hS : Src g w 1 (strR s) (Lib.strCells s) none := strSrc s
  have hsl := strR_len s
  have hvl := Lib.strCells_length s
  have hsmall : n + s.size ≤ 9223372036854775807 := by simp only [maxLen] at hmax; omega
  have hpush : ∀ (o : Obj) (b : Nat), b < w.heap.size → (w.drew.alloc o).heap[b]? = w.heap[b]? := fun o b hb => Below.heap_alloc w.drew _ _ hb
  have hsz1 : ∀ o : Obj, (w.drew.alloc o).heap.size = w.heap.size + 1 := fun o => by rw [alloc_size]; rfl
  have hid : id ∉ ([] : List Nat) := by simp
  cases hβ : g.β id with
  | none =>
    have hn0 : n = 0 := by have := v3 hβ; omega
    subst hn0
    have hκ := v3 hβ
    simp only [Option.map_none, hκ]
    simp only [Nat.zero_add] at *
    by_cases hp : s.size = 0
    · have hrun := run_append_zero_str (P := x.P) w t u ty e i ht hu hi s hp
      obtain ⟨g1, n1, n2, n3, n4, n5⟩ := h.void nid e 1 hnP
      have h2 := (n4.forget [nid, id]).setB (id := nid) (o := .arr e 1 []) (n4.ob nid _ (by simp [St.setB])) (fun q => by rw [hnP] at q; cases q)
      rw [void_sc] at h2
      have h0 : strR s = [] := List.eq_nil_of_length_eq_zero (by rw [hsl, hp])
      rw [h0, hp]
      exact ⟨_, w, g1, hrun, by simpa using h2, n5⟩
    · have hr := run_append_nil_string (P := x.P) w t u ty e i zv ht hu hi hz s (by omega) (by omega) (by rw [hby]; omega)
      rw [strCells_arr] at hr
      have hge := grownCap_ge w s.size 0 e
      obtain ⟨g', q1, q2⟩ := h.regrow (n := 0) hb (Nat.zero_le _) hid nid hnP (fun b q => (by cases q)) hS w.heap.size ((Lib.strCells s).toArray ++ Builtin.zeroCells zv.cells (grownCap w s.size 0 e - s.size)) (grownCap w s.size 0 e) (.inl rfl)
        (w' := w.drew.alloc (.cells ((Lib.strCells s).toArray ++ Builtin.zeroCells zv.cells (grownCap w s.size 0 e - s.size)) e)) (fun b hb _ => hpush _ b hb) ((Below.refl _ _).drew.trans ((Below.refl _ _).alloc (Nat.zero_le _) _)) (by rw [hsz1]; omega) (heap_alloc_new w.drew _) (by rw [hsl]; omega) (grownCap_le_maxLen w _ 0 e hmax) (by
          simp only [Array.size_append, List.size_toArray, size_zeroCells, hzs, hvl, hsz, Nat.mul_one]; omega) (fun b _ q => by rw [hβ] at q; cases q) (fun j u hj => by
          have := zc_new [] (Lib.strCells s) zv.cells 0 (grownCap w s.size 0 e - s.size) j u rfl hj
          rw [Nat.zero_mul]; simpa using this)
      simp only [Nat.zero_add, hsl] at q1 q2
      exact ⟨_, _, g', hr, q1, q2⟩
  | some bo =>
    rw [hβ, Option.map_some] at hR0
    simp only [Option.map_some]
    cases hR0 with
    | @osl _ _ _ _ _ _ cs q1 q2 q3 q4 q5 q6 q7 =>
      rw [Nat.mul_one] at q5
      have hle : n ≤ cs.size := by rw [q5]; exact v1
      by_cases hfit : n + s.size ≤ g.κ id
      · have hr := Lib.run_append_room_string (P := x.P) w t u ty e i ht hu hi hsz bo n (g.κ id) cs q2 s hfit (by omega)
        generalize hnew : (cs.toList.take n ++ Lib.strCells s ++ cs.toList.drop (n + s.size)).toArray = cs' at hr
        have hcl : cs.toList.length = cs.size := Array.length_toList
        have hlay : cs'.toList = lay cs.toList (n * 1) (Lib.strCells s) := by subst hnew; unfold lay; rw [Nat.mul_one, hvl]
        have hgd : ∀ m, cs'.getD m undef = (lay cs.toList (n * 1) (Lib.strCells s)).getD m undef := fun m => by
          rw [List.getD_eq_getElem?_getD, Array.getD_eq_getD_getElem?, ← hlay, Array.getElem?_toList]
        obtain ⟨g', r1, r2⟩ := h.regrow hb hn hid nid hnP (fun b q => (by cases q)) hS bo cs' (g.κ id) (.inr hβ) (w' := w.setRow bo cs') (fun b _ hne => setRow_other _ _ _ _ (fun e => hne (by rw [hβ, e]))) ⟨rfl, rfl, rfl, by simp, fun c hc => by omega⟩ (by
          rw [setRow_size]; exact (h.own bo _ q1).1) (setRow_heap w bo cs _ e _ q2) (by rw [hsl]; exact hfit) v2 (by rw [← Array.length_toList, hlay, lay_len (by omega), hcl, Nat.mul_one]; exact q5) (fun b cs0 hb' hc0 j hj => by
            rw [hβ] at hb'; injection hb' with hb'; subst hb'
            rw [q2] at hc0; injection hc0 with hc0; injection hc0 with hc0; subst hc0
            rw [hgd, List.getD_eq_getElem?_getD, lay_at (by omega), if_neg (by omega), Array.getElem?_toList, ← Array.getD_eq_getD_getElem?]) (fun j u hj => by
            have hl := (List.getElem?_eq_some_iff.1 hj).1
            rw [hgd, List.getD_eq_getElem?_getD, lay_at (by omega), if_pos (by omega), Nat.add_sub_cancel_left, hj]; rfl)
        rw [hsl] at r2
        exact ⟨_, _, g', hr, r1, r2⟩
      · have hcl : cs.toList.length = cs.size := Array.length_toList
        have hol : (cs.toList.take n).length = n * i.size := by rw [List.length_take, hsz]; omega
        have hol1 : (cs.toList.take n).length = n * 1 := by rw [List.length_take]; omega
        have holds : ∀ j u, (cs.toList.take n)[j]? = some u → w.cell? ((⟨bo, 0, none⟩ : Addr).add j) = some u := fun j u hj => by
          have hlt := (List.getElem?_eq_some_iff.1 hj).1
          rw [hol1] at hlt
          rw [List.getElem?_take_of_lt (by omega), Array.getElem?_toList] at hj
          rw [add_lit]
          simp only [World.cell?, q2, Nat.zero_add]
          rw [if_neg (by simp)]; exact hj
        have hr := Lib.run_append_grow_string (P := x.P) w t u ty e i zv ht hu hi hz ⟨bo, 0, none⟩ n (g.κ id) _ hol holds s (by omega) (by omega) (growslice_fits (by omega) (by rw [hby]; exact hroom))
        have hge := grownCap_ge w (n + s.size) (g.κ id) e
        obtain ⟨g', r1, r2⟩ := h.regrow hb hn hid nid hnP (fun b q => (by cases q)) hS w.heap.size ((cs.toList.take n).toArray ++ (Lib.strCells s).toArray ++ Builtin.zeroCells zv.cells (grownCap w (n + s.size) (g.κ id) e - (n + s.size))) (grownCap w (n + s.size) (g.κ id) e) (.inl rfl)
          (w' := w.drew.alloc (.cells ((cs.toList.take n).toArray ++ (Lib.strCells s).toArray ++ Builtin.zeroCells zv.cells (grownCap w (n + s.size) (g.κ id) e - (n + s.size))) e)) (fun b hb _ => hpush _ b hb) ((Below.refl _ _).drew.trans ((Below.refl _ _).alloc (Nat.zero_le _) _)) (by rw [hsz1]; omega) (heap_alloc_new w.drew _) (by rw [hsl]; omega) (grownCap_le_maxLen w _ _ e hmax) (by
            simp only [Array.size_append, List.size_toArray, size_zeroCells, hzs, hvl, hol1, hsz, Nat.mul_one]; omega) (fun b cs0 hb' hc0 j hj => by
            rw [hβ] at hb'; injection hb' with hb'; subst hb'
            rw [q2] at hc0; injection hc0 with hc0; injection hc0 with hc0; subst hc0
            rw [Array.getD_eq_getD_getElem?, ← Array.getElem?_toList]
            simp only [Array.toList_append, List.append_assoc]
            rw [List.getElem?_append_left (by omega), List.getElem?_take_of_lt (by omega), Array.getElem?_toList, ← Array.getD_eq_getD_getElem?]) (fun j u hj => zc_new _ (Lib.strCells s) zv.cells _ _ j u hol1 hj)
        rw [hsl] at r2
        exact ⟨_, _, g', hr, r1, r2⟩
theorem bytes_conv {x : Cx} {g : Gh} {σ : St} {a : Act} {w : World} (hr : Rel x g σ a w) {s d id n e : Nat} {rows : List (List D)} (hb : σ.b id = some (.arr e 1 rows)) (hn : n ≤ rows.length) (h1 : x.P.underlying s = some (.slice (x.P.elem s))) (h2 : x.P.underlying (x.P.elem s) = some (.int .u8)) (h3 : x.P.underlying d = some .string) (h4 : ∀ r ∈ rows.take n, ∃ b : UInt8, r = u8R b) {u : Value} (hu : RE g w (.bs id 1 n) u) :
    (convert s d u).run x.P w = .ok (.string (rowsB (rows.take n))) w := by
  obtain ⟨l, hl⟩ : ∃ l : List UInt8, rows.take n = l.map u8R := by
    clear hn hb
    generalize rows.take n = rs at h4
    induction rs with
    | nil => exact ⟨[], rfl⟩
    | cons r rs ih =>
      obtain ⟨b, hb⟩ := h4 r (by simp)
      obtain ⟨l, hl⟩ := ih fun r hr => h4 r (by simp [hr])
      exact ⟨b :: l, by rw [hb, hl]; rfl⟩
  rw [hl, rowsB_map]
  have hln : l.length = n := by
    have := congrArg List.length hl
    rw [List.length_take, List.length_map] at this
    omega
  obtain ⟨rfl, u1, u2, u3⟩ := (show RC g w none (.bs id 1 n) u from hu)
  cases hβ : g.β id with
  | none =>
    have hκ := u3 hβ
    have hn0 : n = 0 := by omega
    subst hn0
    obtain rfl : l = [] := List.eq_nil_of_length_eq_zero hln
    simp only [Option.map_none, hκ]
    simp [convert, run_underlying h1, run_underlying h2, run_underlying h3, Conv.bytesToString, loadCells, loadCellsFrom]
    try rfl
  | some b =>
    have hR : Rep g.S g.up w (some (.root id)) (.osl e 1 (rows.take n)) (.slice ((g.β id).map fun b => ⟨b, 0, none⟩) n (g.κ id)) := Rep.osl_take (hr.ob id _ hb) n hn
    rw [hβ, Option.map_some, hl] at hR
    obtain ⟨-, vals, hS, hc⟩ := hR.ovals (by rw [List.length_map, hln])
    simp only [Option.map_some]
    have := run_convert_bytes_back w s d (x.P.elem s) ⟨b, 0, none⟩ (g.κ id) l h1 h2 h3 fun j hj => by
      obtain ⟨-, -, hS⟩ := hS
      obtain ⟨v, hv, hrep⟩ := hS j 0 (u8R l[j]) (.s (.int .u8 l[j].toNat)) (by rw [List.getElem?_map, List.getElem?_eq_getElem hj]; rfl) rfl
      rw [Nat.mul_one, Nat.add_zero] at hv
      have : v = .int .u8 l[j].toNat := by
        rcases hrep with q | ⟨b', -, q⟩
        · exact Rep.s_inv q
        · exact Rep.s_inv q
      rw [hc j v hv, this]
    rw [hln] at this
    exact this
def aop3 (P : Program) (σ : St) (dst : Option Tmp) : Op → Option (Prop × D × St)
  | .convert s d z => match bodyT (ev σ z) with
    | .bs id k n => match σ.b id with
      | some (.arr e k' rows) => some (oblT (ev σ z) ∧ k = 1 ∧ k' = 1 ∧ n ≤ rows.length ∧ P.underlying s = some (.slice (P.elem s)) ∧ P.underlying (P.elem s) = some (.int .u8) ∧ P.underlying d = some .string ∧ (∀ r ∈ rows.take n, ∃ b : UInt8, r = u8R b), .s (.string (rowsB (rows.take n))), σ)
      | _ => none
    | _ => none
  | .call ⟨.builtin .append, args, ts⟩ => match dst, args.toList, ts.toList with
    | some d, [s, z], [t, t'] => match tk P t with
      | .sl e k by_ _ => match bodyT (ev σ z) with
        | .s (.string str) => match bodyT (ev σ s) with
          | .bs id k' n => match σ.b id with
            | some (.arr e' k'' rows) => some (P.underlying t' = some .string ∧ oblT (ev σ s) ∧ oblT (ev σ z) ∧ e' = e ∧ k = 1 ∧ k' = 1 ∧ k'' = 1 ∧ n ≤ rows.length ∧ (n + str.size) * by_ ≤ 140737488355328 ∧ n + str.size ≤ 140737488355328,
                .bs (nmA d id) 1 (n + str.size), (σ.sc (pOut [nmA d id, id]) (pOut [nmA d id, id])).setB (nmA d id) (.arr e 1 (rows.take n ++ strR str)))
            | _ => none
          | _ => none
        | _ => none
      | _ => none
    | _, _, _ => none
  | _ => none
theorem aop3_ok {x : Cx} {σ σ' : St} {o : Oper} {ob : Prop} {y : D} (h : aop3 x.P σ o.dst o.op = some (ob, y, σ')) (ho : ob) (hdP : ∀ d, o.dst = some d → isP d = false) {g : Gh} {a : Act} {w : World} (hr : Rel x g σ a w) :
    ∃ w' g', Rel x g' σ' a w' ∧ ∃ r, (execOp a.eval o).run x.P w = .ok (.value r) w' ∧ RT g' w' y r := by
  have hev := ev_ok hr
  have hb : ∀ z, oblT (ev σ z) → RE g w (bodyT (ev σ z)) (a.eval z) := fun z hz => body_ok (hev z) hz
  unfold aop3 at h
  split at h
  · rename_i s d z hop
    split at h
    · rename_i id k n hz
      split at h
      · rename_i e k' rows hrow
        injection h with h; injection h with e1 e2; injection e2 with e2 e3
        subst e1 e2 e3
        obtain ⟨o1, rfl, rfl, o2, o3, o4, o5, o6⟩ := ho
        have hz' := hb z o1
        rw [hz] at hz'
        have hc := bytes_conv hr hrow o2 o3 o4 o5 o6 hz'
        refine ⟨w, g, hr, .string (rowsB (rows.take n)), ?_, Rep.rt (.str _)⟩
        simp only [execOp, hop, Sem.run_bind]
        rw [hc]; rfl
      · cases h
    · cases h
  · rename_i args ts hop
    split at h
    · rename_i d s z t t' hd ha ht
      have ea : args = #[s, z] := Array.ext' ha
      have et : ts = #[t, t'] := Array.ext' ht
      subst ea et
      split at h
      · rename_i e k by_ zz hk
        split at h
        · rename_i str hz
          split at h
          · rename_i id k' n hs
            split at h
            · rename_i e' k'' rows hrow
              injection h with h; injection h with e1 e2; injection e2 with e2 e3
              subst e1 e2 e3
              obtain ⟨o0, o1, o2, rfl, rfl, rfl, rfl, o3, o6, o7⟩ := ho
              have hs' := hb s o1
              rw [hs] at hs'
              have hz' := hb z o2
              rw [hz] at hz'
              have hz' : a.eval z = .string str := Rep.s_inv hz'
              obtain ⟨v', w', g', r1, r2, r3⟩ := hr.appendStr (ty := o.type) hk o0 str hrow o3 (nmA d id) (by unfold nmA; split; exact hdP d hd; simp_all) o6 (by unfold maxLen; omega) hs'
              refine ⟨w', g', r2, v', ?_, r3.re.rt⟩
              simp only [execOp, hop, resolve, invoke, builtin, Sem.run_bind, Sem.run_pure, Result.andThen_ok, List.map_toArray, List.map_cons, List.map_nil, hz']
              rw [r1]; rfl
            · cases h
          · cases h
        · cases h
      · cases h
    · cases h
  · cases h
end Go.Proofs.YtgcdbmcoendcdaaGreat
