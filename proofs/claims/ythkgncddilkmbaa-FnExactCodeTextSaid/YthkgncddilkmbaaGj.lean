import Derived.Test.YthkgncddilkmbaaGi
/- The second engine, tenth part: operations that make or change memory, under one name. -/
namespace Go.Proofs.Ythkgncddilkmbaa
set_option linter.unusedVariables false
set_option linter.unusedSimpArgs false
open Go.RowKit
theorem scC_scC {q1 q2 : Nat → Bool} (h : ∀ i, q2 i = true → q1 i = true) (y : D) : scC q2 (scC q1 y) = scC q2 y := by
  cases y with
  | bx id o => by_cases hq : q1 id = true <;> simp [scC, hq] <;> (cases hr : q2 id <;> first | rfl | exact absurd (h _ hr) hq)
  | el id k i o => by_cases hq : q1 id = true <;> simp [scC, hq] <;> (cases hr : q2 id <;> first | rfl | exact absurd (h _ hr) hq)
  | bs id k n => by_cases hq : q1 id = true <;> simp [scC, hq] <;> (cases hr : q2 id <;> first | rfl | exact absurd (h _ hr) hq)
  | _ => rfl
theorem scC_scC_map {q1 q2 : Nat → Bool} (h : ∀ i, q2 i = true → q1 i = true) (l : List D) : (l.map (scC q1)).map (scC q2) = l.map (scC q2) := by
  rw [List.map_map]; exact List.map_congr_left fun y _ => scC_scC h y
theorem scE_scE {q1 q2 : Nat → Bool} (h : ∀ i, q2 i = true → q1 i = true) (y : D) : scE q2 (scE q1 y) = scE q2 y := by
  have hcc := scC_scC h
  cases y with
  | ag xs => simp only [scE, scC_scC_map h]
  | bx id o => have := hcc (.bx id o); by_cases hq : q1 id = true <;> simp only [scE, scC, hq, if_true, if_false, Bool.false_eq_true] at this ⊢ <;> exact this
  | el id k i o => have := hcc (.el id k i o); by_cases hq : q1 id = true <;> simp only [scE, scC, hq, if_true, if_false, Bool.false_eq_true] at this ⊢ <;> exact this
  | bs id k n => have := hcc (.bs id k n); by_cases hq : q1 id = true <;> simp only [scE, scC, hq, if_true, if_false, Bool.false_eq_true] at this ⊢ <;> exact this
  | _ => rfl
theorem scT_e {q : Nat → Bool} {y : D} (h1 : ∀ xs, y ≠ .tup xs) (h2 : ∀ c x, y ≠ .mb c x) : scT q y = scE q y := by
  cases y <;> first | rfl | exact absurd rfl (h1 _) | exact absurd rfl (h2 _ _)
theorem scE_ne {q : Nat → Bool} (y : D) (h1 : ∀ xs, y ≠ .tup xs) (h2 : ∀ c x, y ≠ .mb c x) : (∀ xs, scE q y ≠ .tup xs) ∧ ∀ c x, scE q y ≠ .mb c x := by
  cases y <;> first | exact absurd rfl (h1 _) | exact absurd rfl (h2 _ _) | (simp only [scE, scC]; first | (split <;> exact ⟨fun _ => (by simp), fun _ _ => (by simp)⟩) | exact ⟨fun _ => (by simp), fun _ _ => (by simp)⟩)
theorem scT_scT {q1 q2 : Nat → Bool} (h : ∀ i, q2 i = true → q1 i = true) (y : D) : scT q2 (scT q1 y) = scT q2 y := by
  by_cases h1 : ∀ xs, y ≠ .tup xs
  · by_cases h2 : ∀ c x, y ≠ .mb c x
    · obtain ⟨n1, n2⟩ := scE_ne (q := q1) y h1 h2
      rw [scT_e h1 h2, scT_e n1 n2, scE_scE h, scT_e h1 h2]
    · simp only [ne_eq, Classical.not_forall, Classical.not_not] at h2
      obtain ⟨c, x, rfl⟩ := h2
      simp only [scT, scE_scE h]
  · simp only [ne_eq, Classical.not_forall, Classical.not_not] at h1
    obtain ⟨xs, rfl⟩ := h1
    simp only [scT, List.map_map]
    congr 1
    exact List.map_congr_left fun y _ => scE_scE h y
theorem scO_scO {q1 q2 : Nat → Bool} (h : ∀ i, q2 i = true → q1 i = true) (o : Ob) : scO q2 (scO q1 o) = scO q2 o := by
  cases o with
  | box row => simp only [scO, scC_scC_map h]
  | arr e k rows => rfl
  | hol e k rows i c r => simp only [scO, scC_scC h]
theorem void_sc (σ : St) (d : Nat) (ids : List Nat) (o1 o : Ob) : (((σ.sc (pOut [d]) (pOut [d])).setB d o1).sc (pOut (d :: ids)) (pOut (d :: ids))).setB d o = (σ.sc (pOut (d :: ids)) (pOut (d :: ids))).setB d o := by
  have hq : ∀ i, pOut (d :: ids) i = true → pOut [d] i = true := fun i hi => by
    simp only [pOut, Bool.and_eq_true] at hi ⊢; exact ⟨hi.1, trivial⟩
  unfold St.setB St.sc
  congr 1
  · funext i; exact scT_scT hq _
  · funext i
    by_cases e : i = d
    · simp [e]
    · simp only [if_neg e]
      by_cases hr : pOut (d :: ids) i = true
      · rw [if_pos hr, if_pos hr, if_pos (hq i hr)]
        cases σ.b i with
        | none => rfl
        | some o' => simp only [Option.map_some]; rw [scO_scO hq]
      · rw [if_neg hr, if_neg hr]
/-- names may be forgotten. -/
theorem Rel.forget {x : Cx} {g : Gh} {σ : St} {a : Act} {w : World} (h : Rel x g σ a w) (l : List Nat) : Rel x g (σ.sc (pOut l) (pOut l)) a w := by
  have ev : Ev (fun _ => True) (fun p => p) (pOut l) (pOut l) g g w w := ⟨⟨fun b hb => ⟨hb, rfl⟩, fun b p hb _ => ⟨hb, rfl⟩, fun b p o _ _ => ⟨trivial, rfl⟩⟩, fun i hi => ⟨rfl, rfl⟩, fun i hi => ⟨hi, trivial, rfl⟩⟩
  exact h.ev ev (Below.refl _ _) (fun b _ _ => rfl) (fun b _ hs => .inl hs) h.new h.own
/-- rows of what is appended; what is taken along. -/
def srcK (σ : St) (k : Nat) : D → Option (Prop × List (List D) × List Nat)
  | .nil => some (True, [], [])
  | .sl k' rows => some (k' = k, rows, [])
  | .bs id k' n => match σ.b id with
    | some (.arr _ k'' rows) => some (k' = k ∧ k'' = k ∧ n ≤ rows.length, rows.take n, [id])
    | _ => none
  | _ => none
theorem srcK_ok {x : Cx} {g : Gh} {σ : St} {a : Act} {w : World} (hr : Rel x g σ a w) {k : Nat} (hk : 0 < k) {y : D} {ob : Prop} {rows : List (List D)} {ids : List Nat} (h : srcK σ k y = some (ob, rows, ids)) (ho : ob) {u : Value} (hu : RE g w y u) :
    ∃ ad c, u = .slice ad rows.length c ∧ (0 < rows.length → ∃ p vals src, ad = some p ∧ Src g w k rows vals src ∧ (∀ b, src = some b → ∃ m ∈ ids, g.up b = some (.root m)) ∧ ∀ j v, vals[j]? = some v → w.cell? (p.add j) = some v) := by
  unfold srcK at h
  split at h
  · injection h with h; injection h with e1 e2; injection e2 with e2 e3
    subst e2 e3
    have hu : Rep g.S g.up w none .nil u := hu
    cases hu
    exact ⟨none, 0, rfl, fun q => by simp at q⟩
  · injection h with h; injection h with e1 e2; injection e2 with e2 e3
    subst e1 e2 e3
    obtain rfl := ho
    have hu : Rep g.S g.up w none (.sl _ _) u := hu
    obtain ⟨ad, c, rfl, -, -⟩ := hu.sl_shape
    refine ⟨ad, c, rfl, fun hn => ?_⟩
    obtain ⟨p, vals, rfl, -, hS, hc⟩ := hu.vals hk hn
    exact ⟨p, vals, none, rfl, hS, fun b q => (by cases q), hc⟩
  · rename_i id k' n
    split at h
    · rename_i e k'' rows' hb
      injection h with h; injection h with e1 e2; injection e2 with e2 e3
      subst e1 e2 e3
      obtain ⟨rfl, rfl, hn⟩ := ho
      obtain ⟨rfl, u1, u2, u3⟩ := hu
      have hl : (rows'.take n).length = n := by rw [List.length_take]; omega
      refine ⟨_, _, by rw [hl], fun hp => ?_⟩
      have hR : Rep g.S g.up w (some (.root id)) (.osl e k'' (rows'.take n)) (.slice ((g.β id).map fun b => ⟨b, 0, none⟩) n (g.κ id)) := Rep.osl_take (hr.ob id _ hb) n hn
      cases hβ : g.β id with
      | none => have := u3 hβ; omega
      | some b =>
        rw [hβ, Option.map_some] at hR
        obtain ⟨h1, vals, h2, h3⟩ := hR.ovals hl.symm
        exact ⟨_, vals, some b, rfl, h2, fun b' q => by injection q with q; subst q; exact ⟨id, by simp, h1⟩, h3⟩
    · cases h
  · cases h
/-- append on a name. -/
theorem Rel.append {x : Cx} {g : Gh} {σ : St} {a : Act} {w : World} (h : Rel x g σ a w) {t ty e k by_ : Nat} {z : List D} (hk : tk x.P t = .sl e k by_ z) {id n : Nat} {rows rows' : List (List D)} {ids : List Nat} (hb : σ.b id = some (.arr e k rows)) (hn : n ≤ rows.length) (hid : pOut ids id = true) (nid : Nat) (hnP : isP nid = false) {ad : Option Addr} {c : Nat}
    (hs : 0 < rows'.length → ∃ p vals src, ad = some p ∧ Src g w k rows' vals src ∧ (∀ b, src = some b → ∃ m ∈ ids, g.up b = some (.root m)) ∧ ∀ j v, vals[j]? = some v → w.cell? (p.add j) = some v)
    (hroom : (n + rows'.length) * by_ ≤ 140737488355328) (hmax : n + rows'.length ≤ maxLen) {v : Value} (hv : RC g w none (.bs id k n) v) :
    ∃ v' w' g', (Builtin.append_ #[t, t] ty #[v, .slice ad rows'.length c]).run x.P w = .ok v' w' ∧ Rel x g' ((σ.sc (pOut (nid :: id :: ids)) (pOut (nid :: id :: ids))).setB nid (.arr e k (rows.take n ++ rows'))) a w' ∧ RC g' w' none (.bs nid k (n + rows'.length)) v' := by
  rcases Nat.eq_zero_or_pos rows'.length with hm | hm
  · have hr0 : rows' = [] := List.eq_nil_of_length_eq_zero hm
    subst hr0
    obtain ⟨ht, i, zv, hi, hz, hsz, hby, hzs, hk0, hz1, -, -⟩ := tk_sl hk
    obtain ⟨rfl, v1, v2, v3⟩ := hv
    have hrun := run_append_zero w t ty e i ht hi ((g.β id).map fun b => ⟨b, 0, none⟩) n (g.κ id) v1 ad c
    have hR0 : Rep g.S g.up w (some (.root id)) (.osl e k rows) (.slice ((g.β id).map fun b => ⟨b, 0, none⟩) rows.length (g.κ id)) := h.ob id _ hb
    cases hβ : g.β id with
    | none =>
      have hκ := v3 hβ
      have hn0 : n = 0 := by omega
      subst hn0
      rw [hβ, hκ] at hrun
      obtain ⟨g1, n1, n2, n3, n4, n5⟩ := h.void nid e k hnP
      have h2 := (n4.forget (nid :: id :: ids)).setB (id := nid) (o := .arr e k []) (n4.ob nid _ (by simp [St.setB])) (fun q => by rw [hnP] at q; cases q)
      rw [void_sc] at h2
      refine ⟨_, w, g1, by simpa [hκ] using hrun, by simpa using h2, n5⟩
    | some bo =>
      rw [hβ, Option.map_some] at hR0 hrun
      cases hR0 with
      | @osl _ _ _ _ _ _ cs q1 q2 q3 q4 q5 q6 q7 =>
        obtain ⟨g', r1, r2⟩ := h.regrow (rows' := []) (vals := []) (src := none) (ids := ids) hb hn (fun q => pOut_spec hid id q rfl) nid hnP (fun b q => (by cases q)) ⟨by simp, by simp, by simp⟩ bo cs (g.κ id) (.inr hβ) (fun _ _ _ => rfl) (Below.refl _ _) (h.own bo _ q1).1 q2 (by simpa using v1) v2 q5 (fun b cs0 hb' hc0 j _ => by
          rw [hβ] at hb'; injection hb' with hb'; subst hb'
          rw [q2] at hc0; injection hc0 with hc0; injection hc0 with hc0; subst hc0; rfl) (fun j u hj => by simp at hj)
        exact ⟨_, w, g', hrun, r1, r2⟩
  · obtain ⟨p, vals, src, rfl, hS, hsrc, hc⟩ := hs hm
    exact h.appendPos hk hb hn (fun q => pOut_spec hid id q rfl) nid hnP hsrc hS p c hc hm hroom hmax hv
/-- what is given at the call keeps its name: what is made of it bears another. -/
def nmA (d id : Nat) : Nat := if isP id = true then d else id
/-- an operation that makes or changes memory: what is asked, what it yields, the frame behind. -/
def aop2 (P : Program) (σ : St) (dst : Option Tmp) : Op → Option (Prop × D × St)
  | .alloc t => match dst, ck P t with
    | some d, some (_, _, z) => some (True, .bx d 0, (σ.sc (pOut [d]) (pOut [d])).setB d (.box z))
    | _, _ => none
  | .box t x => match dst, cellsE (bodyT (ev σ x)) with
    | some d, some row => some (oblT (ev σ x), .bx d 0, (σ.sc (pOut [d]) (pOut [d])).setB d (.box (row.map (scC (pOut [d])))))
    | _, _ => none
  | .store t p v => match dst, cellsE (bodyT (ev σ v)), ck P t with
    | none, some xs, some (_, n, _) => match bodyT (ev σ p) with
      | .bx id off => match σ.b id with
        | some (.box row) => some (oblT (ev σ p) ∧ oblT (ev σ v) ∧ xs.length = n ∧ off + xs.length ≤ row.length, .un, σ.setB id (.box (lay row off xs)))
        | _ => none
      | .el id k i off => match σ.b id, fdL σ xs with
        | some (.arr e k' rows), some (ob, ds) => some (oblT (ev σ p) ∧ oblT (ev σ v) ∧ k' = k ∧ xs.length = n ∧ off + xs.length ≤ k ∧ i < rows.length ∧ ob ∧ nodB (idsC xs) = true ∧ pOut (idsC xs) id = true,
            .un, (σ.sc (pOut (idsC xs)) (pOut (idsC xs))).setB id (.arr e k (rows.set i (lay (rows.getD i []) off ds))))
        | _, _ => none
      | _ => none
    | _, _, _ => none
  | .build t parts => match aBuild P σ t parts with
    | some (ob, y) => some (ob, y, σ)
    | none => none
  | .makeSlice t l c => match dst, tk P t, intE (bodyT (ev σ l)), intE (bodyT (ev σ c)) with
    | some d, .sl e k by_ z, some (_, n), some (_, m) => some (oblT (ev σ l) ∧ oblT (ev σ c) ∧ m = n ∧ 0 ≤ n ∧ by_ * n ≤ 281474976710656 ∧ n ≤ 281474976710656,
        .bs d k n.toNat, (σ.sc (pOut [d]) (pOut [d])).setB d (.arr e k (List.replicate n.toNat z)))
    | _, _, _, _ => none
  | .buildSlice t len parts => match dst, tk P t with
    | some d, .sl e k _ _ => match aRows σ k 0 parts.toList with
      | some (ob, rows, raw) => some (ob ∧ parts.toList.length = len ∧ len * k ≤ 16777216 ∧ nodB (idsC raw) = true, .bs d k rows.length, (σ.sc (pOut (d :: idsC raw)) (pOut (d :: idsC raw))).setB d (.arr e k rows))
      | none => none
    | _, _ => none
  | .call ⟨.builtin .append, args, ts⟩ => match dst, args.toList, ts.toList with
    | some d, [s, x], [t, t'] => match tk P t with
      | .sl e k by_ _ => match srcK σ k (bodyT (ev σ x)) with
        | some (ob, rows', ids) => match bodyT (ev σ s) with
          | .bs id k' n => match σ.b id with
            | some (.arr e' k'' rows) => some (t' = t ∧ oblT (ev σ s) ∧ oblT (ev σ x) ∧ e' = e ∧ k' = k ∧ k'' = k ∧ n ≤ rows.length ∧ ob ∧ pOut ids id = true ∧ (n + rows'.length) * by_ ≤ 140737488355328 ∧ n + rows'.length ≤ 140737488355328,
                .bs (nmA d id) k (n + rows'.length), (σ.sc (pOut (nmA d id :: id :: ids)) (pOut (nmA d id :: id :: ids))).setB (nmA d id) (.arr e k (rows.take n ++ rows')))
            | _ => none
          | .nil => some (t' = t ∧ oblT (ev σ s) ∧ oblT (ev σ x) ∧ ob ∧ pOut ids d = true ∧ rows'.length * by_ ≤ 140737488355328 ∧ rows'.length ≤ 140737488355328,
                .bs d k rows'.length, (σ.sc (pOut (d :: ids)) (pOut (d :: ids))).setB d (.arr e k rows'))
          | _ => none
        | none => none
      | _ => none
    | _, _, _ => none
  | _ => none
theorem RC.scOut {g : Gh} {w : World} {l : List Nat} {p : Option Pos} {y : D} {v : Value} (h : RC g w p y v) : RC g w p (scC (pOut l) y) v := by
  have one := h.one
  cases y <;> first | exact h | (simp only [scC]; split; exact h; exact one)
theorem aop2_ok {x : Cx} {σ σ' : St} {o : Oper} {ob : Prop} {y : D} (h : aop2 x.P σ o.dst o.op = some (ob, y, σ')) (ho : ob) (hdP : ∀ d, o.dst = some d → isP d = false) {g : Gh} {a : Act} {w : World} (hr : Rel x g σ a w) :
    ∃ w' g', Rel x g' σ' a w' ∧ ((∃ r, (execOp a.eval o).run x.P w = .ok (.value r) w' ∧ RT g' w' y r) ∨ ((execOp a.eval o).run x.P w = .ok .skip w' ∧ y = .un)) := by
  have hev := ev_ok hr
  have hb : ∀ z, oblT (ev σ z) → RE g w (bodyT (ev σ z)) (a.eval z) := fun z hz => body_ok (hev z) hz
  unfold aop2 at h
  split at h
  · rename_i t hop
    split at h
    · rename_i d ag n z hd hk
      injection h with h; injection h with e1 e2; injection e2 with e2 e3
      subst e2 e3
      obtain ⟨-, ⟨i, zv, h1, h2, h3, h4, h5, h6⟩, -⟩ := ck_spec hk
      subst h6
      obtain ⟨g', q1, q2⟩ := hr.newBox d (zv.cells.toList.map dv) zv.cells.toList t (dv_RCs _ _ _ h5) (fun y hy => by
        obtain ⟨u, -, rfl⟩ := List.mem_map.1 hy
        unfold dv
        split <;> rfl) (hdP d hd)
      refine ⟨_, g', q1, .inl ⟨.pointer (some ⟨w.heap.size, 0, none⟩), ?_, (show RC g' _ none (.bx d 0) _ from ⟨_, q2, rfl⟩).re.rt⟩⟩
      simp [execOp, hop, Instr.alloc, zeroValue, typeInfo, h1, h3, newVar, newRow]
    · cases h
  · rename_i t z hop
    split at h
    · rename_i d row hd hc
      injection h with h; injection h with e1 e2; injection e2 with e2 e3
      subst e1 e2 e3
      have hrow := cellsE_ok hc (hb z ho)
      obtain ⟨g', q1, q2⟩ := hr.newBox d (row.map (scC (pOut [d]))) (a.eval z).cells.toList t ⟨by simp [hrow.1], fun j y u hy hu => by
        rw [List.getElem?_map] at hy
        obtain ⟨y', h1, rfl⟩ := Option.map_eq_some_iff.1 hy
        exact (hrow.2 j y' u h1 hu).scOut⟩ (fun y hy => by
        obtain ⟨u, -, rfl⟩ := List.mem_map.1 hy
        exact scC_scC (fun _ h => h) u) (hdP d hd)
      refine ⟨_, g', q1, .inl ⟨.pointer (some ⟨w.heap.size, 0, none⟩), ?_, (show RC g' _ none (.bx d 0) _ from ⟨_, q2, rfl⟩).re.rt⟩⟩
      simp [execOp, hop, Instr.box, newVar, newRow]
    · cases h
  · rename_i t p v hop
    split at h
    · rename_i xs ag n z hd hv hk
      have run : ∀ {b i : Nat} {w' : World}, a.eval p = .pointer (some ⟨b, i, none⟩) → (a.eval v).cells.toList.length = n → (storeCells ⟨b, i, none⟩ (a.eval v).cells.toList).run x.P w = .ok () w' → (execOp a.eval o).run x.P w = .ok .skip w' := by
        intro b i w' h1 h2 h3
        simp only [execOp, hop, Instr.storeAt, h1, Instr.sureAddr, Sem.run_bind, Sem.run_pure, Result.andThen_ok, storeVar, ck_size hk]
        rw [if_neg (by simpa using h2), h3]; rfl
      split at h
      · rename_i id off hp
        split at h
        · rename_i row hrow
          injection h with h; injection h with e1 e2; injection e2 with e2 e3
          subst e1 e2 e3
          obtain ⟨o1, o2, o3, o4⟩ := ho
          have hp' := hb p o1
          rw [hp] at hp'
          obtain ⟨b, hβ, hp'⟩ := hp'
          have hxs := cellsE_ok hv (hb v o2)
          obtain ⟨w', s1, s2⟩ := hr.store id off row xs hrow _ hxs o4 hβ
          exact ⟨w', g, s2, .inr ⟨run hp' (by rw [hxs.1, o3]) s1, rfl⟩⟩
        · cases h
      · rename_i id k i off hp
        split at h
        · rename_i e k' rows ob' ds hrow hf
          injection h with h; injection h with e1 e2; injection e2 with e2 e3
          subst e1 e2 e3
          obtain ⟨o1, o2, rfl, o3, o4, o5, o6, o7, o8⟩ := ho
          have hp' := hb p o1
          rw [hp] at hp'
          obtain ⟨b, hβ, hp'⟩ := hp'
          have hxs := cellsE_ok hv (hb v o2)
          obtain ⟨f1, f2⟩ := fdL_ok hr _ _ _ _ hf o6 hxs
          obtain ⟨w', g', s1, s2⟩ := hr.storeArr id e k' i off rows ds hrow (a.eval v).cells.toList (idsC xs) (tgtC xs) o5 (by omega) (fun q => pOut_spec o8 id q rfl) (by rw [hxs.1, f1]) (fun j y u hy hu => by
            have hj : j < xs.length := by rw [← f1]; exact (List.getElem?_eq_some_iff.1 hy).1
            rcases f2 j xs[j] y u (List.getElem?_eq_getElem hj) hy hu with ⟨-, q⟩ | ⟨m, q1, q2⟩
            · exact .inl q
            · exact .inr ⟨m, idsC_mem (List.getElem?_eq_getElem hj) q1, tgtC_at o7 (List.getElem?_eq_getElem hj) q1, q2⟩) hβ
          exact ⟨w', g', s2, .inr ⟨run hp' (by rw [hxs.1, o3]) s1, rfl⟩⟩
        · cases h
      · cases h
    · cases h
  · rename_i t parts hop
    split at h
    · rename_i ob' y' h'
      injection h with h; injection h with e1 e2; injection e2 with e2 e3
      subst e1 e2 e3
      obtain ⟨r, r1, r2⟩ := aBuild_ok hr h' ho
      refine ⟨w, g, hr, .inl ⟨r, ?_, r2.rt⟩⟩
      simp only [execOp, hop, Sem.run_bind, r1]; rfl
    · cases h
  · rename_i t l c hop
    split at h
    · rename_i d e k by_ z kl n kc m hd hk hl hc
      injection h with h; injection h with e1 e2; injection e2 with e2 e3
      subst e1 e2 e3
      obtain ⟨o1, o2, rfl, o4, o5, o6⟩ := ho
      obtain ⟨hu1, i, zv, q1, q2, q3, q4, q5, q6, q7, q8, -⟩ := tk_sl hk
      have el := intE_ok hl (hb l o1)
      have ec := intE_ok hc (hb c o2)
      have hrun := run_make (P := x.P) w t e i zv hu1 q1 q2 kl kc m m o4 (Int.le_refl _) (by rw [q4]; exact o5) (by omega)
      obtain ⟨g', r1, r2⟩ := hr.newArr (.inl rfl) d e k (List.replicate m.toNat z) (madeCells zv.cells (m.toNat * i.size)) m.toNat [] (fun _ => 0) (by simp) (by unfold maxLen; omega) (by simp [madeCells, q3]) (hdP d hd) (fun i row hi => by
        rw [List.getElem?_replicate] at hi
        split at hi
        · injection hi with hi; subst hi; rw [q8]; simpa using q5
        · cases hi) (fun i' j row y' hi hj => by
        rw [List.getElem?_replicate] at hi
        split at hi
        · rename_i hlt
          injection hi with hi; subst hi
          left
          rw [q8, List.getElem?_map] at hj
          obtain ⟨u, hu, rfl⟩ := Option.map_eq_some_iff.1 hj
          have hjk : j < k := by rw [← q5, ← Array.length_toList]; exact (List.getElem?_eq_some_iff.1 hu).1
          have hlt' : i' * k + j < m.toNat * k := by
            have : (i' + 1) * k ≤ m.toNat * k := Nat.mul_le_mul_right _ hlt
            rw [Nat.add_mul, Nat.one_mul] at this; omega
          have : (madeCells zv.cells (m.toNat * i.size)).getD (i' * k + j) undef = u := by
            rw [q3, Array.getD_eq_getD_getElem?]
            simp only [madeCells, Array.getElem?_map]
            rw [Array.getElem?_range, if_pos hlt']
            simp only [Option.map_some, Option.getD_some, q5]
            rw [Nat.add_comm, Nat.add_mul_mod_self_right, Nat.mod_eq_of_lt hjk, getElem!_pos zv.cells j (by omega)]
            rw [Array.getElem?_toList, Array.getElem?_eq_getElem (by omega)] at hu
            injection hu
          rw [this]
          exact dv_rep _ (q7 u (List.mem_of_getElem? hu))
        · cases hi)
      rw [List.length_replicate] at r2
      refine ⟨_, g', r1, .inl ⟨_, ?_, r2.re.rt⟩⟩
      simp only [execOp, hop, el, ec, Sem.run_bind, hrun, Result.andThen_ok, Sem.run_pure]
    · cases h
  · rename_i t len parts hop
    split at h
    · rename_i d e k by_ z hd hk
      split at h
      · rename_i ob' rows raw h'
        injection h with h; injection h with e1 e2; injection e2 with e2 e3
        subst e1 e2 e3
        obtain ⟨o1, o2, o3, o4⟩ := ho
        obtain ⟨vals, r1, r2, r3, r4, r5⟩ := lit_run hr hk hop h' o1 o2 o3
        obtain ⟨g', l1, l2⟩ := hr.newArr (.inl rfl) d e k rows vals.toArray rows.length (idsC raw) (tgtC raw) (Nat.le_refl _) r1 (by simpa using r2) (hdP d hd) r3 (fun i j row y' hi hj => by
          obtain ⟨u, c, q1, q2, q3⟩ := r4 i j row y' hi hj
          rw [getD_toList (u := u) (by simpa using q1)]
          rcases q3 with ⟨-, q3⟩ | ⟨m, q3, q4⟩
          · exact .inl q3
          · exact .inr ⟨m, idsC_mem q2 q3, tgtC_at o4 q2 q3, q4⟩)
        exact ⟨_, g', l1, .inl ⟨_, r5, l2.re.rt⟩⟩
      · cases h
    · cases h
  · rename_i args ts hop
    split at h
    · rename_i d s z t t' hd ha ht
      have ea : args = #[s, z] := Array.ext' ha
      have et : ts = #[t, t'] := Array.ext' ht
      subst ea et
      split at h
      · rename_i e k by_ zz hk
        split at h
        · rename_i ob' rows' ids hx
          have hk0 : 0 < k := by obtain ⟨_, i, zv, _, _, _, _, _, hk0, _⟩ := tk_sl hk; exact hk0
          split at h
          · rename_i id k' n hs
            split at h
            · rename_i e' k'' rows hrow
              injection h with h; injection h with e1 e2; injection e2 with e2 e3
              subst e1 e2 e3
              obtain ⟨rfl, o1, o2, rfl, rfl, rfl, o3, o4, o5, o6, o7⟩ := ho
              have hs' := hb s o1
              rw [hs] at hs'
              obtain ⟨ad, c, hu, hsr⟩ := srcK_ok hr hk0 hx o4 (hb z o2)
              obtain ⟨v', w', g', r1, r2, r3⟩ := hr.append (ty := o.type) hk hrow o3 o5 (nmA d id) (by unfold nmA; split; exact hdP d hd; simp_all) (c := c) hsr o6 (by unfold maxLen; omega) hs'
              refine ⟨w', g', r2, .inl ⟨v', ?_, r3.re.rt⟩⟩
              simp only [execOp, hop, resolve, invoke, builtin, Sem.run_bind, Sem.run_pure, Result.andThen_ok, List.map_toArray, List.map_cons, List.map_nil]
              rw [hu, r1]; rfl
            · cases h
          · rename_i hs
            injection h with h; injection h with e1 e2; injection e2 with e2 e3
            subst e1 e2 e3
            obtain ⟨rfl, o1, o2, o4, o5, o6, o7⟩ := ho
            have hs' := hb s o1
            rw [hs] at hs'
            have hs' : a.eval s = .slice none 0 0 := by
              have : Rep g.S g.up w none .nil (a.eval s) := hs'
              generalize a.eval s = v at this
              cases this; rfl
            obtain ⟨ad, c, hu, hsr⟩ := srcK_ok hr hk0 hx o4 (hb z o2)
            obtain ⟨g1, n1, n2, n3, n4, n5⟩ := hr.void d e k (hdP d hd)
            obtain ⟨v', w', g', r1, r2, r3⟩ := n4.append (ty := o.type) (n := 0) (rows := []) (ids := ids) (c := c) (ad := ad) (rows' := rows') hk (by simp [St.setB]) (Nat.zero_le _) o5 d (hdP d hd) (fun hp => by
              obtain ⟨p, vals, src, p1, p2, p3, p4⟩ := hsr hp
              exact ⟨p, vals, src, p1, by unfold Src; rw [n1, n2]; exact p2, by rw [n2]; exact p3, p4⟩) (by simpa using o6) (by unfold maxLen; omega) n5
            rw [show pOut (d :: d :: ids) = pOut (d :: ids) by funext i; simp [pOut], void_sc, List.take_nil, List.nil_append] at r2
            rw [Nat.zero_add] at r3
            refine ⟨w', g', r2, .inl ⟨v', ?_, r3.re.rt⟩⟩
            simp only [execOp, hop, resolve, invoke, builtin, Sem.run_bind, Sem.run_pure, Result.andThen_ok, List.map_toArray, List.map_cons, List.map_nil, hs']
            rw [hu, r1]; rfl
          · cases h
        · cases h
      · cases h
    · cases h
  · cases h
end Go.Proofs.Ythkgncddilkmbaa
