/- The engine, twelfth part: a region that draws its order, all its operations quiet: the order of the text serves every order. -/
import Derived.Test.YtokjkmibnjfkaaaAbK
namespace Go.Proofs.Ytokjkmibnjfkaaa
set_option linter.unusedVariables false
set_option linter.unusedSimpArgs false
open Go.RowKit
section
variable {P : Program} {N : Nat} {ops : Array Oper} {K : St → Prop}
/-- whatever else the slots hold, the operation yields y. -/
def Yl (P : Program) (N : Nat) (ops : Array Oper) (o : Oper) (σ : St) (y : T) : Prop :=
  ∀ σ' : St, (∀ t ∈ o.looksAt ops, σ'.t t = σ.t t) → σ'.b = σ.b → ∀ (x : Cx) (g : Gh) (a : Act) (w : World), x.P = P → x.N = N → Rel x g σ' a w →
    (Region.wanted o (yielded ops a.tmps) = true ∧ ∀ (K : Act → World → Prop) (Q : Exit → Act → World → Prop), (∀ g' a' w', Rel x g' (σ'.put o.dst y) a' w' → K a' w') → o.wp P a w K Q) ∨
    (Region.wanted o (yielded ops a.tmps) = false ∧ Rel x g (σ'.put o.dst y) (a.put o.dst undef) w)
def aAnyQ (P : Program) (N : Nat) (ops : Array Oper) (K : St → Prop) : Nat → Array Bool → St → Prop
  | 0, listed, σ => Region.ready .any ops listed = [] ∧ K σ
  | fuel + 1, listed, σ => (Region.ready .any ops listed = [] → K σ) ∧ ∀ i ∈ Region.ready .any ops listed, ∃ o y, ops[i]? = some o ∧ Yl P N ops o σ y ∧ aAnyQ P N ops K fuel (listed.setIfInBounds i true) (σ.put o.dst y)
def aLexQ (P : Program) (N : Nat) (ops : Array Oper) (K : St → Prop) : List Oper → St → Prop
  | [], σ => K σ
  | o :: rest, σ => ∃ y, Yl P N ops o σ y ∧ aLexQ P N ops K rest (σ.put o.dst y)
theorem St.put_comm (σ : St) {d e : Option Tmp} (u v : T) (h : ∀ i, d = some i → e ≠ some i) : (σ.put d u).put e v = (σ.put e v).put d u := by
  cases d with
  | none => rfl
  | some d =>
    cases e with
    | none => rfl
    | some e =>
      have hne : d ≠ e := fun q => h d rfl (q ▸ rfl)
      simp only [St.put]
      congr 1
      funext i
      by_cases h1 : i = e
      · simp [h1, Ne.symm hne]
      · simp [h1]
theorem St.put_other (σ : St) {d : Option Tmp} (u : T) {l : List Tmp} (h : ∀ i, d = some i → i ∉ l) : ∀ t ∈ l, (σ.put d u).t t = σ.t t := by
  intro t ht
  cases d with
  | none => rfl
  | some d =>
    have : t ≠ d := fun q => h d rfl (q ▸ ht)
    simp [St.put, this]
theorem St.put_b (σ : St) (d : Option Tmp) (u : T) : (σ.put d u).b = σ.b := by cases d <;> rfl
theorem Yl.put {o : Oper} {σ : St} {y : T} (h : Yl P N ops o σ y) {d : Option Tmp} (u : T) (hd : ∀ i, d = some i → i ∉ o.looksAt ops) : Yl P N ops o (σ.put d u) y := by
  intro σ' h1 h2
  exact h σ' (fun t ht => (h1 t ht).trans (St.put_other σ u hd t ht)) (h2.trans (St.put_b _ _ _))
theorem Yl.unput {o : Oper} {σ : St} {y : T} {d : Option Tmp} {u : T} (h : Yl P N ops o (σ.put d u) y) (hd : ∀ i, d = some i → i ∉ o.looksAt ops) : Yl P N ops o σ y := by
  intro σ' h1 h2
  exact h σ' (fun t ht => (h1 t ht).trans (St.put_other σ u hd t ht).symm) (h2.trans (St.put_b _ _ _).symm)
theorem aAnyQ_first {i : Nat} {oi : Oper} {y : T} (hi : ops[i]? = some oi) :
    ∀ (fuel : Nat) (listed : Array Bool) (σ : St),
      (∀ j oj, ops[j]? = some oj → j ≠ i → listed.getD j true = false → (∀ e ∈ oj.after, Region.binds .any e = true → e.on ≠ i) → oi.apart ops oj = true) →
      i ∈ Region.ready .any ops listed → Yl P N ops oi σ y →
      aAnyQ P N ops K fuel (listed.setIfInBounds i true) (σ.put oi.dst y) → aAnyQ P N ops K (fuel + 1) listed σ := by
  intro fuel
  induction fuel with
  | zero =>
    intro listed σ hfree hr hy H
    refine ⟨fun h => (by rw [h] at hr; cases hr), fun j hj => ?_⟩
    by_cases hji : j = i
    · subst hji; exact ⟨oi, y, hi, hy, H⟩
    · have := ready_mono hj hji
      rw [H.1] at this
      cases this
  | succ fuel ih =>
    intro listed σ hfree hr hy H
    refine ⟨fun h => (by rw [h] at hr; cases hr), fun j hj => ?_⟩
    by_cases hji : j = i
    · subst hji; exact ⟨oi, y, hi, hy, H⟩
    · obtain ⟨oj, z, hoj, hz, H1⟩ := H.2 j (ready_mono hj hji)
      obtain ⟨hjun, oj', hoj', hall⟩ := mem_ready.1 hj
      rw [hoj] at hoj'
      injection hoj' with hoj'
      subst hoj'
      have hnot : ∀ e ∈ oj.after, Region.binds .any e = true → e.on ≠ i := fun e he hb heq => by
        have h1 := hall e he hb
        have h0 := (mem_ready.1 hr).1
        rw [heq] at h1
        rcases Nat.lt_or_ge i listed.size with h' | h'
        · simp [h'] at h0 h1; rw [h0] at h1; cases h1
        · simp [Array.getElem?_eq_none h'] at h1
      obtain ⟨a1, a2, a3⟩ := Oper.apart_spec (hfree j oj hoj hji hjun hnot)
      refine ⟨oj, z, hoj, hz.unput a1, ?_⟩
      have hfree' : ∀ k ok, ops[k]? = some ok → k ≠ i → (listed.setIfInBounds j true).getD k true = false →
          (∀ e ∈ ok.after, Region.binds .any e = true → e.on ≠ i) → oi.apart ops ok = true := fun k ok hk hki hun hno => by
        refine hfree k ok hk hki ?_ hno
        by_cases hjk : j = k
        · subst hjk; exact hjun
        · rw [getD_set_ne true hjk] at hun; exact hun
      refine ih (listed.setIfInBounds j true) _ hfree' (ready_mono hr (Ne.symm hji)) (hy.put z a3) ?_
      rw [Array.setIfInBounds_comm _ _ hji, ← St.put_comm σ y z a2]
      exact H1
theorem aAnyQ_lex : ∀ (l : List Oper) (k : Nat) (listed : Array Bool) (σ : St), (∀ j, l[j]? = ops[k + j]?) →
    Region.lexFrom .any ops l.length k listed = true → aLexQ P N ops K l σ → aAnyQ P N ops K l.length listed σ
  | [], _, _, _, _, hB, h => ⟨by simpa [Region.lexFrom] using hB, h⟩
  | o :: l, k, listed, σ, hl, hB, h => by
    have h0 : ops[k]? = some o := by simpa using (hl 0).symm
    simp only [List.length_cons, Region.lexFrom, Bool.and_eq_true] at hB
    obtain ⟨⟨hr, hf⟩, hB'⟩ := hB
    obtain ⟨y, hy, hK⟩ := h
    exact aAnyQ_first h0 l.length listed σ (Region.free_spec h0 hf) (by simpa using hr) hy
      (aAnyQ_lex l (k + 1) _ _ (fun j => by have := hl (j + 1); simpa [Nat.add_assoc, Nat.add_comm 1 j] using this) hB' hK)
theorem wpAny_of_aAnyQ {x : Cx} (hx : x.P = P) (hN : x.N = N) {Q : Exit → Act → World → Prop} (hQ : ∀ σ' g' a' w', Rel x g' σ' a' w' → K σ' → Q .normal a' w') :
    ∀ (fuel : Nat) (listed : Array Bool) (σ : St) (g : Gh) (a : Act) (w : World), Rel x g σ a w → aAnyQ P N ops K fuel listed σ → wpAny P .any ops Q fuel listed a w
  | 0, _, σ, g, a, w, hr, h => ⟨h.1, hQ σ g a w hr h.2⟩
  | fuel + 1, listed, σ, g, a, w, hr, h => by
    refine ⟨fun h0 => hQ σ g a w hr (h.1 h0), fun i hi => ?_⟩
    obtain ⟨o, y, ho, hy, hK⟩ := h.2 i hi
    unfold wpOp
    simp only [ho]
    rcases hy σ (fun _ _ => rfl) rfl x g a w hx hN hr with ⟨hw, h1⟩ | ⟨hw, h1⟩
    · rw [if_pos hw]
      exact .inl (h1 _ _ fun g' a' w' hr' => wpAny_of_aAnyQ hx hN hQ fuel _ _ g' a' w' hr' hK)
    · rw [if_neg (by rw [hw]; simp)]
      exact wpAny_of_aAnyQ hx hN hQ fuel _ _ g _ w h1 hK
end
/-! ### what operations look at -/
theorem ev_congr {σ σ' : St} {z : Operand} (h : ∀ t, z = .tmp t → σ'.t t = σ.t t) : ev σ' z = ev σ z := by
  cases z with
  | tmp t => exact h t rfl
  | const v => rfl
  | global _ => rfl
  | func _ => rfl
theorem looks_op {ops : Array Oper} {o : Oper} {σ σ' : St} (h : ∀ t ∈ o.looksAt ops, σ'.t t = σ.t t) : ∀ z ∈ o.op.operands, ev σ' z = ev σ z := fun z hz =>
  ev_congr fun t ht => h t (by
    subst ht
    exact List.mem_append_left _ (List.mem_filterMap.2 ⟨.tmp t, by simpa using hz, rfl⟩))
theorem aLoad_congr {P : Program} {σ σ' : St} (hb : σ'.b = σ.b) (t : TypeId) (x : E) : aLoad P σ' t x = aLoad P σ t x := by unfold aLoad; rw [hb]
theorem aop1_congr {P : Program} {σ σ' : St} (op : Op) (h : ∀ z ∈ op.operands, ev σ' z = ev σ z) (hb : σ'.b = σ.b) : aop1 P σ' op = aop1 P σ op := by
  cases op <;> simp only [Op.operands] at h <;> simp only [aop1]
  case slice t x lo hi mx =>
    cases mx with
    | some _ => rfl
    | none =>
      have hx := h x (by simp)
      cases lo <;> cases hi <;> simp_all
  case call c =>
    obtain ⟨callee, args, ts⟩ := c
    cases callee with
    | builtin b =>
      cases b <;> try rfl
      simp only [aop1]
      cases ha : args.toList with
      | nil => rfl
      | cons z l =>
        cases l with
        | nil =>
          cases ht : ts.toList with
          | nil => rfl
          | cons t l' =>
            cases l' with
            | nil => dsimp only; rw [h z (by simp [Call.operands, ← Array.mem_toList_iff, ha])]
            | cons _ _ => rfl
        | cons _ _ => rfl
    | value _ => rfl
    | invoke _ _ => rfl
  all_goals (first | rfl | (simp only [aLoad_congr hb]; simp_all; done) | (simp_all; done))
theorem aCaps_congr {σ σ' : St} : ∀ (l : List Operand), (∀ z ∈ l, ev σ' z = ev σ z) → aCaps σ' l = aCaps σ l
  | [], _ => rfl
  | z :: l, h => by
    unfold aCaps
    rw [h z (by simp), aCaps_congr l (fun y hy => h y (by simp [hy]))]
theorem aopP_congr {P : Program} {σ σ' : St} (op : Op) (h : ∀ z ∈ op.operands, ev σ' z = ev σ z) (hb : σ'.b = σ.b) : aopP P σ' op = aopP P σ op := by
  unfold aopP
  rw [aop1_congr op h hb]
  split
  · rfl
  · unfold aopF
    cases op <;> try rfl
    rename_i fn first caps _
    cases fn <;> try rfl
    simp only [Op.operands] at h
    try dsimp only
    rw [aCaps_congr _ (fun z hz => h z (by simp; right; simpa using hz))]
theorem aArgs_congr {σ σ' : St} : ∀ (l : List Operand), (∀ z ∈ l, ev σ' z = ev σ z) → aArgs σ' l = aArgs σ l
  | [], _ => rfl
  | z :: l, h => by
    unfold aArgs
    rw [h z (by simp), aArgs_congr l (fun y hy => h y (by simp [hy]))]
theorem aCallee_congr {σ σ' : St} (op : Op) (h : ∀ z ∈ op.operands, ev σ' z = ev σ z) : aCallee σ' op = aCallee σ op := by
  unfold aCallee
  cases op <;> try rfl
  rename_i c
  obtain ⟨callee, args, ts⟩ := c
  cases callee <;> try rfl
  rename_i fo
  simp only [Op.operands, Call.operands] at h
  dsimp only
  rw [h fo (by simp), aArgs_congr _ (fun z hz => h z (by simp; right; simpa using hz))]
theorem grd_congr {ops : Array Oper} {o : Oper} {σ σ' : St} (h : ∀ t ∈ o.looksAt ops, σ'.t t = σ.t t) {j : Nat} {want : Bool} (hg : o.guard = some (j, want)) : grd ops σ' j want = grd ops σ j want := by
  unfold grd
  cases hd : dstAt ops j with
  | none => rfl
  | some t => dsimp only; rw [h t (by unfold dstAt at hd; simp [Oper.looksAt, hg, hd])]
theorem aRows_congr {σ σ' : St} {k : Nat} : ∀ (l : List (Nat × Operand)) (j : Nat), (∀ z ∈ l, ev σ' z.2 = ev σ z.2) → aRows σ' k j l = aRows σ k j l
  | [], _, _ => rfl
  | (i, z) :: l, j, h => by
    unfold aRows
    rw [h (i, z) (by simp), aRows_congr l (j + 1) (fun y hy => h y (by simp [hy]))]
/-- a literal slice, sealed. -/
def aopB (P : Program) (σ : St) : Op → Option (Prop × T)
  | .buildSlice t len parts => match tk P t with
    | .sl e k _ _ => match aRows σ k 0 parts.toList with
      | some (ob, rows) => some (ob ∧ parts.toList.length = len ∧ len * k ≤ 16777216, .e (.d (.sl k rows)))
      | none => none
    | _ => none
  | .build t parts => match aBuild P σ t parts with
    | some (ob, y) => some (ob, .e y)
    | none => none
  | _ => none
theorem aFill_congr {σ σ' : St} {fs : List (Nat × Nat × Bool)} : ∀ (l : List (Nat × Operand)) (cells : List C), (∀ z ∈ l, ev σ' z.2 = ev σ z.2) → aFill σ' fs cells l = aFill σ fs cells l
  | [], _, _ => rfl
  | (i, z) :: l, cells, h => by
    have e : ev σ' z = ev σ z := h (i, z) (by simp)
    unfold aFill
    rw [e]
    cases fs[i]? with
    | none => rfl
    | some p =>
      obtain ⟨off, sz, ag⟩ := p
      cases cellsE (bodyT (ev σ z)) with
      | none => rfl
      | some xs => simp only [aFill_congr l _ (fun y hy => h y (by simp [hy]))]
theorem aopB_congr {P : Program} {σ σ' : St} (op : Op) (h : ∀ z ∈ op.operands, ev σ' z = ev σ z) : aopB P σ' op = aopB P σ op := by
  unfold aopB
  cases op <;> try rfl
  · rename_i t parts
    simp only [Op.operands] at h
    simp only [aBuild]
    cases tk P t <;> try rfl
    simp only
    rw [aFill_congr _ _ (fun z hz => h z.2 (by simp; exact ⟨z.1, by simpa using hz⟩))]
  · rename_i t len parts
    simp only [Op.operands] at h
    dsimp only
    cases tk P t <;> try rfl
    dsimp only
    rw [aRows_congr _ _ (fun z hz => h z.2 (by simp; exact ⟨z.1, by simpa using hz⟩))]
theorem aopB_ok {x : Cx} {σ : St} {o : Oper} {ob : Prop} {y : T} (h : aopB x.P σ o.op = some (ob, y)) (ho : ob) {g : Gh} {a : Act} {w : World} (hr : Rel x g σ a w) :
    ∃ r w' g', (execOp a.eval o).run x.P w = .ok (.value r) w' ∧ Rel x g' σ a w' ∧ RT x.B g' w' y r := by
  unfold aopB at h
  split at h
  · rename_i t len parts hop
    split at h
    · rename_i e k by_ z hk
      split at h
      · rename_i ob' rows h'
        injection h with h; injection h with e1 e2
        subst e1 e2
        obtain ⟨vals, r3, r4, r5⟩ := lit_run hr hk hop h' ho.1 ho.2.1 ho.2.2
        obtain ⟨g', l1, l2, l3⟩ := hr.lit 0 e k rows vals r3 r4
        obtain ⟨c1, c2⟩ := hr.callS (g' := g') (r := .e (.d (.sl k rows))) ((Below.refl _ _).alloc (Nat.le_refl _) (.cells vals.toArray e)) (fun b o hb => by
          rw [l3]; exact ⟨fun q => q.elim id (fun q => by omega), .inl⟩) (fun b o q => by
          rw [l3] at q
          rw [alloc_size]
          rcases q with q | q
          · have := hr.new b o q; omega
          · omega) l2.rep
        exact ⟨_, _, _, r5, c1, c2⟩
      · cases h
    · cases h
  · rename_i t parts hop
    split at h
    · rename_i ob' y' h'
      injection h with h; injection h with e1 e2
      subst e1 e2
      obtain ⟨r, r1, r2⟩ := aBuild_ok hr h' ho
      refine ⟨r, w, g, ?_, hr, r2⟩
      simp only [execOp, hop, Sem.run_bind, r1]; rfl
    · cases h
  · cases h
/-- one operation of a region that draws its order. -/
def aqst (P : Program) (ops : Array Oper) (o : Oper) (K : St → Prop) (σ : St) : Prop := match o.guard with
  | none => match aopP P σ o.op with
    | some (ob, y) => ob ∧ K (σ.put o.dst y)
    | none => match aopB P σ o.op with
      | some (ob, y) => ob ∧ K (σ.put o.dst y)
      | none => ACallQ P σ o true fun r => K (σ.put o.dst r)
  | some (j, want) => match grd ops σ j want with
    | none => False
    | some c => match aopP P σ o.op with
      | some (ob, y) => (c = true → ob) ∧ K (σ.put o.dst (gdT c y))
      | none => match aopB P σ o.op with
        | some (ob, y) => (c = true → ob) ∧ K (σ.put o.dst (gdT c y))
        | none => ACallQ P σ o c fun r => K (σ.put o.dst (gdT c r))
def aqs (P : Program) (ops : Array Oper) (K : St → Prop) : List Oper → St → Prop
  | [], σ => K σ
  | o :: rest, σ => aqst P ops o (aqs P ops K rest) σ
theorem aqst_yl {P : Program} {N : Nat} {ops : Array Oper} (hc : chk N ops = true) {o : Oper} (ho : ∃ i : Nat, ops[i]? = some o) {K : St → Prop} {σ : St} (h : aqst P ops o K σ) : ∃ y, Yl P N ops o σ y ∧ K (σ.put o.dst y) := by
  obtain ⟨io, ho⟩ := ho
  have hdN : ∀ d, o.dst = some d → d < N := fun d q => (chk_spec hc ho q).1
  -- a step that yields in the world at hand or in one with more memory
  have val : ∀ y, (∀ σ' : St, (∀ t ∈ o.looksAt ops, σ'.t t = σ.t t) → σ'.b = σ.b → ∀ (x : Cx) (g : Gh) (a : Act) (w : World), x.P = P → x.N = N → Rel x g σ' a w →
      (Region.wanted o (yielded ops a.tmps) = true ∧ ∃ r w' g', (execOp a.eval o).run P w = .ok (.value r) w' ∧ Rel x g' σ' a w' ∧ RT x.B g' w' y r) ∨ (Region.wanted o (yielded ops a.tmps) = false ∧ RT x.B g w y undef)) → Yl P N ops o σ y := by
    intro y hy σ' h1 h2 x g a w hx hN hr
    rcases hy σ' h1 h2 x g a w hx hN hr with ⟨hw, r, w', g', r1, r2, r3⟩ | ⟨hw, r1⟩
    · refine .inl ⟨hw, fun K Q hK => ?_⟩
      unfold Oper.wp
      rw [r1, Oper.upon_value]
      exact hK _ _ _ (r2.put r3 o.dst (fun d q => by rw [hN]; exact hdN d q))
    · exact .inr ⟨hw, hr.put r1 o.dst (fun d q => by rw [hN]; exact hdN d q)⟩
  unfold aqst at h
  split at h
  · rename_i hgd
    have hw : ∀ a : Act, Region.wanted o (yielded ops a.tmps) = true := fun a => by simp [Region.wanted, hgd]
    split at h
    · rename_i ob y hop
      refine ⟨y, val y fun σ' h1 h2 x g a w hx hN hr => .inl ⟨hw a, ?_⟩, h.2⟩
      subst hx
      obtain ⟨r, r1, r2⟩ := aopP_ok ((aopP_congr o.op (looks_op h1) h2).trans hop) h.1 hr
      exact ⟨r, w, g, r1, hr, r2⟩
    · split at h
      · rename_i ob y hop
        refine ⟨y, val y fun σ' h1 h2 x g a w hx hN hr => .inl ⟨hw a, ?_⟩, h.2⟩
        subst hx
        exact aopB_ok ((aopB_congr o.op (looks_op h1)).trans hop) h.1 hr
      · obtain ⟨d, ob, f, as, r, hdst, hcal, hF, hK⟩ := h
        obtain ⟨hob, hF⟩ := hF rfl
        refine ⟨_, ?_, hK⟩
        intro σ' h1 h2 x g a w hx hN hr
        refine .inl ⟨hw a, fun K Q hKK => ?_⟩
        subst hx
        obtain ⟨vs, v1, v2⟩ := aCallee_ok ((aCallee_congr o.op (looks_op h1)).trans hcal) hob hr
        unfold Oper.wp
        rw [v2, hF.ent, Oper.upon_enter]
        refine (hF.run w g.S vs hr.new v1.1 v1.2).mono ?_
        rintro e w' ⟨v, g', r', rfl, b1, b2, b3, b4, b5, rfl, b7⟩
        obtain ⟨c1, c2⟩ := hr.callS b1 b2 b3 b7
        exact hKK _ _ _ (c1.put c2 o.dst (fun d q => by rw [hN]; exact hdN d q))
  · rename_i j want hgd
    split at h
    · exact h.elim
    · rename_i c hcg
      have hw : ∀ (σ' : St), (∀ t ∈ o.looksAt ops, σ'.t t = σ.t t) → ∀ (x : Cx) (g : Gh) (a : Act) (w : World), x.N = N → Rel x g σ' a w → Region.wanted o (yielded ops a.tmps) = c := by
        intro σ' h1 x g a w hN hr
        simp only [Region.wanted, hgd]
        subst hN
        exact grd_ok hr hc ((grd_congr h1 hgd).trans hcg)
      cases c with
      | true =>
        split at h
        · rename_i ob y hop
          refine ⟨_, val _ fun σ' h1 h2 x g a w hx hN hr => .inl ⟨hw σ' h1 x g a w hN hr, ?_⟩, h.2⟩
          subst hx
          obtain ⟨r, r1, r2⟩ := aopP_ok ((aopP_congr o.op (looks_op h1) h2).trans hop) (h.1 rfl) hr
          exact ⟨r, w, g, r1, hr, gdT_true r2⟩
        · split at h
          · rename_i ob y hop
            refine ⟨_, val _ fun σ' h1 h2 x g a w hx hN hr => .inl ⟨hw σ' h1 x g a w hN hr, ?_⟩, h.2⟩
            subst hx
            obtain ⟨r, w', g', r1, r2, r3⟩ := aopB_ok ((aopB_congr o.op (looks_op h1)).trans hop) (h.1 rfl) hr
            exact ⟨r, w', g', r1, r2, gdT_true r3⟩
          · obtain ⟨d, ob, f, as, r, hdst, hcal, hF, hK⟩ := h
            obtain ⟨hob, hF⟩ := hF rfl
            refine ⟨_, ?_, hK⟩
            intro σ' h1 h2 x g a w hx hN hr
            refine .inl ⟨hw σ' h1 x g a w hN hr, fun K Q hKK => ?_⟩
            subst hx
            obtain ⟨vs, v1, v2⟩ := aCallee_ok ((aCallee_congr o.op (looks_op h1)).trans hcal) hob hr
            unfold Oper.wp
            rw [v2, hF.ent, Oper.upon_enter]
            refine (hF.run w g.S vs hr.new v1.1 v1.2).mono ?_
            rintro e w' ⟨v, g', r', rfl, b1, b2, b3, b4, b5, rfl, b7⟩
            obtain ⟨c1, c2⟩ := hr.callS b1 b2 b3 b7
            exact hKK _ _ _ (c1.put (gdT_true c2) o.dst (fun d q => by rw [hN]; exact hdN d q))
      | false =>
        have fal : ∀ y, Yl P N ops o σ (gdT false y) := fun y => val _ fun σ' h1 h2 x g a w hx hN hr => .inr ⟨hw σ' h1 x g a w hN hr, gdT_false x.B g w y⟩
        split at h
        · exact ⟨_, fal _, h.2⟩
        · split at h
          · exact ⟨_, fal _, h.2⟩
          · obtain ⟨d, ob, f, as, r, hdst, hcal, hF, hK⟩ := h
            exact ⟨_, fal _, hK⟩
theorem aLexQ_of_aqs {P : Program} {N : Nat} {ops : Array Oper} (hc : chk N ops = true) {K : St → Prop} : ∀ (l : List Oper), (∀ o ∈ l, ∃ i : Nat, ops[i]? = some o) → ∀ σ, aqs P ops K l σ → aLexQ P N ops K l σ
  | [], _, _, h => h
  | o :: l, hl, σ, h => by
    obtain ⟨y, h1, h2⟩ := aqst_yl hc (hl o (by simp)) h
    exact ⟨y, h1, aLexQ_of_aqs hc l (fun o' h' => hl o' (List.mem_cons_of_mem _ h')) _ h2⟩
end Go.Proofs.Ytokjkmibnjfkaaa
