import Derived.Test.YtmopjpnghomdfaaEngB
/- The engine: regions that draw their order and hold several operations with an effect, one behind the other, walked in an order of one's own. -/
namespace Go.Proofs.Ytmopjpnghomdfaa
set_option linter.unusedVariables false
set_option linter.unusedSimpArgs false
open Go.RowKit
/-- operations with an effect; an empty literal is one too: it may grow. -/
def pivQ : Op → Bool
  | .buildSlice _ 0 _ => true
  | op => pivB op
/-- an effect: its place, what it does to the frame, what it does to a value. -/
structure Fx where
  i : Nat
  E : St → St
  th : T → T
section
variable {P : Program} {N : Nat} {ops : Array Oper} {m : Nat} {K : St → Prop}
def aAnyE (P : Program) (N : Nat) (ops : Array Oper) (m : Nat) (K : St → Prop) : Nat → Array Bool → List Fx → St → Prop
  | 0, listed, es, σ => (∀ j, j < m → listed.getD j true = true) ∧ K σ
  | fuel + 1, listed, es, σ => Region.ready .any ops listed ≠ [] ∧ ∀ i ∈ Region.ready .any ops listed, ∃ o, ops[i]? = some o ∧ i < m ∧
      (((∀ e ∈ es, e.i ≠ i) ∧ ∃ y, Yl P N ops o σ y ∧ aAnyE P N ops m K fuel (listed.setIfInBounds i true) es (σ.put o.dst y)) ∨
       (∃ e es', es = e :: es' ∧ e.i = i ∧ SoundP P N ops o e.E σ ∧ aAnyE P N ops m K fuel (listed.setIfInBounds i true) es' (e.E σ)))
/-- the effect goes past what the other operations put. -/
def FxOk (ops : Array Oper) (m : Nat) (e : Fx) : Prop := ∀ (σ : St) (k : Nat) (ok : Oper) (z : T), ops[k]? = some ok → k < m → k ≠ e.i → e.E (σ.put ok.dst z) = (e.E σ).put ok.dst (e.th z)
/-- an operation may run ahead of or behind the effects that do not wait for it. -/
def FlC (P : Program) (N : Nat) (ops : Array Oper) (i : Nat) (y : T) (o : Oper) : List Fx → St → Prop
  | [], _ => True
  | e :: es, σ => ancB ops e.i ops.size i = true ∨ (e.th y = y ∧ Yl P N ops o (e.E σ) y ∧ FlC P N ops i y o es (e.E σ))
theorem FlC.put {i : Nat} {y : T} {o : Oper} {j : Nat} {oj : Oper} (hj : ops[j]? = some oj) (hjm : j < m) (ha : ∀ d, oj.dst = some d → d ∉ o.looksAt ops) :
    ∀ (es : List Fx) (σ : St) (z : T), (∀ e ∈ es, FxOk ops m e ∧ e.i ≠ j) → FlC P N ops i y o es σ → FlC P N ops i y o es (σ.put oj.dst z)
  | [], _, _, _, _ => trivial
  | e :: es, σ, z, he, h => by
    rcases h with h | ⟨h1, h2, h3⟩
    · exact .inl h
    · obtain ⟨q1, q2⟩ := he e (by simp)
      refine .inr ⟨h1, ?_, ?_⟩
      · rw [q1 σ j oj z hj hjm (Ne.symm q2)]; exact h2.put _ ha
      · rw [q1 σ j oj z hj hjm (Ne.symm q2)]; exact FlC.put hj hjm ha es _ _ (fun e' h' => he e' (List.mem_cons_of_mem _ h')) h3
theorem FlC.unput {i : Nat} {y : T} {o : Oper} {j : Nat} {oj : Oper} (hj : ops[j]? = some oj) (hjm : j < m) (ha : ∀ d, oj.dst = some d → d ∉ o.looksAt ops) :
    ∀ (es : List Fx) (σ : St) (z : T), (∀ e ∈ es, FxOk ops m e ∧ e.i ≠ j) → FlC P N ops i y o es (σ.put oj.dst z) → FlC P N ops i y o es σ
  | [], _, _, _, _ => trivial
  | e :: es, σ, z, he, h => by
    rcases h with h | ⟨h1, h2, h3⟩
    · exact .inl h
    · obtain ⟨q1, q2⟩ := he e (by simp)
      rw [q1 σ j oj z hj hjm (Ne.symm q2)] at h2 h3
      exact .inr ⟨h1, h2.unput ha, FlC.unput hj hjm ha es _ _ (fun e' h' => he e' (List.mem_cons_of_mem _ h')) h3⟩
theorem aAnyE_first {i : Nat} {oi : Oper} {y : T} (hi : ops[i]? = some oi) (him : i < m) (htail : ∀ j, m ≤ j → j < ops.size → bnd ops j i = true) :
    ∀ (fuel : Nat) (listed : Array Bool) (es : List Fx) (σ : St), (∀ e ∈ es, FxOk ops m e ∧ e.i ≠ i) → listed.size = ops.size → Closed ops listed →
      (∀ j oj, ops[j]? = some oj → j ≠ i → j < m → listed.getD j true = false → bnd ops j i = false → oi.apart ops oj = true) →
      i ∈ Region.ready .any ops listed → Yl P N ops oi σ y → FlC P N ops i y oi es σ →
      aAnyE P N ops m K fuel (listed.setIfInBounds i true) es (σ.put oi.dst y) → aAnyE P N ops m K (fuel + 1) listed es σ := by
  have hbn : ∀ (listed : Array Bool) (j : Nat), i ∈ Region.ready .any ops listed → j ∈ Region.ready .any ops listed → bnd ops j i = false := by
    intro listed j hr hj
    cases hb : bnd ops j i with
    | false => rfl
    | true =>
      obtain ⟨-, oj, hoj, hall⟩ := mem_ready.1 hj
      obtain ⟨o, e, ho, he, hb, hon⟩ := bnd_spec hb
      rw [hoj] at ho; injection ho with ho; subst ho
      have h1 := hall e he hb
      have h0 := (mem_ready.1 hr).1
      rw [hon] at h1
      rcases Nat.lt_or_ge i listed.size with h' | h'
      · simp [h'] at h0 h1; rw [h0] at h1; cases h1
      · simp [Array.getElem?_eq_none h'] at h1
  have hjm : ∀ (listed : Array Bool) (j : Nat), i ∈ Region.ready .any ops listed → j ∈ Region.ready .any ops listed → j < m := by
    intro listed j hir hj
    rcases Nat.lt_or_ge j m with q | q
    · exact q
    · obtain ⟨-, oj, hoj, -⟩ := mem_ready.1 hj
      have := htail j q (Array.getElem?_eq_some_iff.1 hoj).1
      rw [hbn listed j hir hj] at this; cases this
  intro fuel
  induction fuel with
  | zero =>
    intro listed es σ hes hsz hcl hfr hr hy hfl H
    refine ⟨fun h => (by rw [h] at hr; cases hr), fun j hj => ?_⟩
    have hlt := hjm listed j hr hj
    by_cases hji : j = i
    · subst hji; exact ⟨oi, hi, hlt, .inl ⟨fun e he => (hes e he).2, y, hy, H⟩⟩
    · have h1 := H.1 j hlt
      rw [getD_set_ne true (Ne.symm hji)] at h1
      rw [(mem_ready.1 hj).1] at h1
      cases h1
  | succ fuel ih =>
    intro listed es σ hes hsz hcl hfr hr hy hfl H
    refine ⟨fun h => (by rw [h] at hr; cases hr), fun j hj => ?_⟩
    have hlt := hjm listed j hr hj
    by_cases hji : j = i
    · subst hji; exact ⟨oi, hi, hlt, .inl ⟨fun e he => (hes e he).2, y, hy, H⟩⟩
    · obtain ⟨hjun, oj', hoj', hall⟩ := mem_ready.1 hj
      obtain ⟨a1, a2, a3⟩ := Oper.apart_spec (hfr j oj' hoj' hji hlt hjun (hbn listed j hr hj))
      obtain ⟨oj, hoj, -, hk⟩ := H.2 j (ready_mono hj hji)
      rw [hoj] at hoj'; injection hoj' with hoj'; subst hoj'
      have hsz' : (listed.setIfInBounds j true).size = ops.size := by simpa using hsz
      have hfr' : ∀ k ok, ops[k]? = some ok → k ≠ i → k < m → (listed.setIfInBounds j true).getD k true = false → bnd ops k i = false → oi.apart ops ok = true := fun k ok hk hki hkm hun hb => by
        refine hfr k ok hk hki hkm ?_ hb
        by_cases hjk : j = k
        · subst hjk; exact hjun
        · rw [getD_set_ne true hjk] at hun; exact hun
      rcases hk with ⟨hne, z, hz, H1⟩ | ⟨e, es', rfl, he, hS, H1⟩
      · refine ⟨oj, hoj, hlt, .inl ⟨hne, z, hz.unput a1, ?_⟩⟩
        refine ih (listed.setIfInBounds j true) es _ hes hsz' (closed_set hcl hj) hfr' (ready_mono hr (Ne.symm hji)) (hy.put z a3) (FlC.put hoj hlt a3 es σ z (fun e he => ⟨(hes e he).1, hne e he⟩) hfl) ?_
        rw [Array.setIfInBounds_comm _ _ hji, ← St.put_comm σ y z a2]
        exact H1
      · refine ⟨oj, hoj, hlt, .inr ⟨e, es', rfl, he, hS.unput a1, ?_⟩⟩
        rcases hfl with q | ⟨q1, q2, q3⟩
        · exfalso
          rw [he] at q
          have h1 := anc_listed hcl hj _ _ q
          have h0 := (mem_ready.1 hr).1
          have hilt : i < listed.size := by rw [hsz]; exact (Array.getElem?_eq_some_iff.1 hi).1
          simp [hilt] at h0 h1; rw [h0] at h1; cases h1
        · refine ih (listed.setIfInBounds j true) es' _ (fun e' h' => hes e' (List.mem_cons_of_mem _ h')) hsz' (closed_set hcl hj) hfr' (ready_mono hr (Ne.symm hji)) q2 q3 ?_
          rw [Array.setIfInBounds_comm _ _ hji]
          have := (hes e (by simp)).1 σ i oi y hi him (Ne.symm (hes e (by simp)).2)
          rw [q1] at this
          rw [← this]
          exact H1
/-- the walk in an order of one's own. -/
def walkE (P : Program) (N : Nat) (ops : Array Oper) (K : St → Prop) : List Nat → List Fx → St → Prop
  | [], es, σ => es = [] ∧ K σ
  | i :: π, es, σ => ∃ o, ops[i]? = some o ∧
      ((pivQ o.op = false ∧ ∃ y, Yl P N ops o σ y ∧ FlC P N ops i y o es σ ∧ walkE P N ops K π es (σ.put o.dst y)) ∨
       (pivQ o.op = true ∧ ∃ e es', es = e :: es' ∧ e.i = i ∧ SoundP P N ops o e.E σ ∧ walkE P N ops K π es' (e.E σ)))
theorem walkE_mem : ∀ (π : List Nat) (es : List Fx) (σ : St), walkE P N ops K π es σ → ∀ e ∈ es, e.i ∈ π ∧ ∀ o, ops[e.i]? = some o → pivQ o.op = true
  | [], es, σ, h, e, he => by rw [h.1] at he; cases he
  | i :: π, es, σ, h, e, he => by
    obtain ⟨o, ho, h⟩ := h
    rcases h with ⟨-, y, -, -, hK⟩ | ⟨hp, e0, es', rfl, hi, -, hK⟩
    · obtain ⟨q1, q2⟩ := walkE_mem π es _ hK e he
      exact ⟨List.mem_cons_of_mem _ q1, q2⟩
    · rcases List.mem_cons.1 he with rfl | he
      · exact ⟨by simp [hi], fun o' ho' => by rw [hi, ho] at ho'; injection ho' with q; rw [← q]; exact hp⟩
      · obtain ⟨q1, q2⟩ := walkE_mem π es' _ hK e he
        exact ⟨List.mem_cons_of_mem _ q1, q2⟩
/-- the order's form, looked at once. -/
def ordB (ops : Array Oper) (m : Nat) (fl : Nat → Nat → Bool) : List Nat → List Nat → Array Bool → Bool
  | [], _, listed => (List.range m).all fun j => listed.getD j true
  | i :: π, dn, listed => decide (i < m) && !π.contains i && (Region.ready .any ops listed).contains i &&
      (match ops[i]? with
      | none => false
      | some o => (match o.dst with
          | none => false
          | some d => !(o.looksAt ops).contains d && dn.all fun j => match ops[j]? with
            | some oj => !(oj.looksAt ops).contains d
            | none => false) &&
        (if pivQ o.op = true then o.guard.isNone && (Region.ready .any ops listed).all (fun j => j == i) && dn.all (fun j => match ops[j]? with
            | some oj => pivQ oj.op || ancB ops i ops.size j || fl i j
            | none => false)
          else (List.range m).all fun j => listed.getD j true || j == i || bnd ops j i || match ops[j]? with
            | some oj => o.apart ops oj
            | none => true)) &&
      ordB ops m fl π (i :: dn) (listed.setIfInBounds i true)
theorem aAnyE_walk {fl : Nat → Nat → Bool} (htail : ∀ j, m ≤ j → j < ops.size → ∀ i, i < m → bnd ops j i = true) :
    ∀ (π dn : List Nat) (listed : Array Bool) (es : List Fx) (σ : St), ordB ops m fl π dn listed = true → (∀ e ∈ es, FxOk ops m e) → listed.size = ops.size → Closed ops listed →
      walkE P N ops K π es σ → aAnyE P N ops m K π.length listed es σ
  | [], dn, listed, es, σ, hB, hes, hsz, hcl, h => by
    refine ⟨fun j hj => ?_, h.2⟩
    exact List.all_eq_true.1 hB j (List.mem_range.2 hj)
  | i :: π, dn, listed, es, σ, hB, hes, hsz, hcl, h => by
    have hmem := walkE_mem _ _ _ h
    obtain ⟨o, ho, h⟩ := h
    simp only [ordB, ho, Bool.and_eq_true, decide_eq_true_eq, Bool.not_eq_true'] at hB
    obtain ⟨⟨⟨⟨him, hnd⟩, hr⟩, -, hB1⟩, hB2⟩ := hB
    have hr : i ∈ Region.ready .any ops listed := by simpa using hr
    have hcl' := closed_set hcl hr
    rcases h with ⟨hp, y, hy, hf, hK⟩ | ⟨hp, e, es', rfl, he, hS, hK⟩
    · rw [hp] at hB1
      simp only [Bool.false_eq_true, if_false] at hB1
      have hne : ∀ e ∈ es, e.i ≠ i := fun e he hei => by
        have := (hmem e he).2 o (by rw [hei]; exact ho)
        rw [hp] at this; cases this
      refine aAnyE_first ho him (fun j h1 h2 => htail j h1 h2 i him) π.length listed es σ (fun e he => ⟨hes e he, hne e he⟩) hsz hcl (fun j oj hoj hji hjm hun hb => ?_) hr hy hf ?_
      · have := List.all_eq_true.1 hB1 j (List.mem_range.2 hjm)
        simp only [hun, hb, hoj, Bool.or_eq_true, Bool.false_or, beq_iff_eq, Bool.or_false] at this
        rcases this with q | q
        · exact absurd q hji
        · exact q
      · exact aAnyE_walk htail π _ _ es _ hB2 hes (by simpa using hsz) hcl' hK
    · rw [hp] at hB1
      simp only [if_true, Bool.and_eq_true] at hB1
      refine ⟨fun q => (by rw [q] at hr; cases hr), fun j hj => ?_⟩
      have hji : j = i := by
        have := List.all_eq_true.1 hB1.1.2 j hj
        simpa using this
      subst hji
      exact ⟨o, ho, him, .inr ⟨e, es', rfl, he, hS, aAnyE_walk htail π _ _ es' _ hB2 (fun e' h' => hes e' (List.mem_cons_of_mem _ h')) (by simpa using hsz) hcl' hK⟩⟩
theorem wpAny_of_aAnyE {x : Cx} (hx : x.P = P) (hN : x.N = N) {Q : Exit → Act → World → Prop} {n : Nat} (hm : m ≤ ops.size)
    (hQ : ∀ σ' g' a' w' (listed : Array Bool), listed.size = ops.size → (∀ j, j < m → listed.getD j true = true) → (∀ j, m ≤ j → j < ops.size → listed.getD j true = false) → Rel x g' σ' a' w' → K σ' → wpAny P .any ops Q n listed a' w') :
    ∀ (fuel : Nat) (listed : Array Bool) (es : List Fx) (σ : St) (g : Gh) (a : Act) (w : World), listed.size = ops.size → (∀ j, m ≤ j → j < ops.size → listed.getD j true = false) → Rel x g σ a w → aAnyE P N ops m K fuel listed es σ → wpAny P .any ops Q (n + fuel) listed a w
  | 0, listed, es, σ, g, a, w, hsz, hge, hr, h => hQ σ g a w listed hsz h.1 hge hr h.2
  | fuel + 1, listed, es, σ, g, a, w, hsz, hge, hr, h => by
    refine ⟨fun q => absurd q h.1, fun i hi => ?_⟩
    obtain ⟨o, ho, him, hk⟩ := h.2 i hi
    have hge' : ∀ j, m ≤ j → j < ops.size → (listed.setIfInBounds i true).getD j true = false := fun j hj hjs => by rw [getD_set_ne true (by omega)]; exact hge j hj hjs
    have ih : ∀ es' σ' g' a' w', Rel x g' σ' a' w' → aAnyE P N ops m K fuel (listed.setIfInBounds i true) es' σ' → wpAny P .any ops Q (n + fuel) (listed.setIfInBounds i true) a' w' := fun es' σ' g' a' w' hr' h' => wpAny_of_aAnyE hx hN hm hQ fuel _ es' σ' g' a' w' (by simpa using hsz) hge' hr' h'
    unfold wpOp
    simp only [ho]
    rcases hk with ⟨-, y, hy, hK⟩ | ⟨e, es', rfl, -, hS, hK⟩
    · rcases hy σ (fun _ _ => rfl) rfl x g a w hx hN hr with ⟨hw, h1⟩ | ⟨hw, h1⟩
      · rw [if_pos hw]
        exact .inl (h1 _ _ fun g' a' w' hr' => ih _ _ g' a' w' hr' hK)
      · rw [if_neg (by rw [hw]; simp)]
        exact ih _ _ g _ w h1 hK
    · obtain ⟨hw, h1⟩ := hS σ (fun _ _ => rfl) rfl x g a w hx hN hr
      rw [if_pos hw]
      exact .inl (h1 _ _ fun g' a' w' hr' => ih _ _ g' a' w' hr' hK)
end
theorem aop2_fxQ {P : Program} {σ σ' : St} {dst : Option Tmp} {op : Op} {ob : Prop} {y : T} (hp : pivQ op = true) (h : aop2 P σ dst op = some (ob, y, σ')) :
    ∃ (θ : T → T) (β : (Nat → Option (List C)) → Nat → Option (List C)), σ' = ⟨fun i => θ (σ.t i), β σ.b⟩ ∧
      ∀ σ1 : St, σ1.b = σ.b → (∀ z ∈ op.operands, ev σ1 z = ev σ z) → aop2 P σ1 dst op = some (ob, y, ⟨fun i => θ (σ1.t i), β σ1.b⟩) := by
  unfold pivQ at hp
  split at hp
  · rename_i t parts
    simp only [aop2] at h
    split at h
    · rename_i d e k by_ z ht
      split at h
      · rename_i ob' rows hr
        injection h with h; injection h with e1 e2; injection e2 with e2 e3
        subst e1 e2 e3
        refine fx_of (fun τ => τ.sc _ _) (fx_sc _ _) fun σ1 hv => ?_
        have e1 := aRows_congr (σ := σ) (σ' := σ1) (k := k) parts.toList 0 (fun z hz => hv z.2 (by simp [Op.operands]; exact ⟨z.1, by simpa using hz⟩))
        simp only [aop2, ht, e1, hr]
      · cases h
    · cases h
  · exact aop2_fx hp h
/-- the operations that float see the same before and behind the effect; quiet calls may float too. -/
def aFlQ (P : Program) (ops : Array Oper) (σ τ : St) : List Oper → Prop
  | [] => True
  | o :: r => (match o.dst with
    | some d => τ.t d = σ.t d ∧ aqst P ops o (fun τ' => τ'.t d = σ.t d) τ
    | none => False) ∧ aFlQ P ops σ τ r
/-- the walk in an order of one's own, as it is reckoned. -/
def aPivN (P : Program) (ops : Array Oper) (K : St → Prop) (fl : List Oper) (p : Oper) (σ : St) : Prop := match aop2 P σ p.dst p.op with
  | some (ob, y, σ') => ob ∧ aFlQ P ops σ (σ'.put p.dst y) fl ∧ K (σ'.put p.dst y)
  | none => False
def aqsN (P : Program) (ops : Array Oper) (fl : Nat → Nat → Bool) (K : St → Prop) : List Nat → List (Nat × Oper) → St → Prop
  | [], _, σ => K σ
  | i :: π, acc, σ => match ops.toList[i]? with
    | none => False
    | some o => match pivQ o.op with
      | true => aPivN P ops (aqsN P ops fl K π (acc.filter fun p => fl i p.1)) ((acc.filter fun p => fl i p.1).map Prod.snd) o σ
      | false => aqst P ops o (aqsN P ops fl K π ((i, o) :: acc)) σ
def valD (σ : St) (o : Oper) : T := match o.dst with | some d => σ.t d | none => .e .un
theorem aFlQ_mem {P : Program} {ops : Array Oper} {σ τ : St} : ∀ {l : List Oper}, aFlQ P ops σ τ l → ∀ o ∈ l, ∃ d, o.dst = some d ∧ τ.t d = σ.t d ∧ aqst P ops o (fun τ' => τ'.t d = σ.t d) τ
  | [], _, o, ho => by cases ho
  | o' :: r, h, o, ho => by
    simp only [aFlQ] at h
    rcases List.mem_cons.1 ho with rfl | ho
    · obtain ⟨q, -⟩ := h
      split at q
      · rename_i d hd
        exact ⟨d, hd, q.1, q.2⟩
      · exact q.elim
    · exact aFlQ_mem h.2 o ho
/-- all places of slots differ. -/
def dstB (ops : Array Oper) (m : Nat) : Bool := (List.range m).all fun i => (List.range m).all fun j => i == j || match ops[i]?, ops[j]? with
  | some a, some b => a.dst.isSome && a.dst != b.dst
  | _, _ => false
theorem walkE_of {P : Program} {N : Nat} {ops : Array Oper} {m : Nat} {fl : Nat → Nat → Bool} (hc : chk N ops = true) (hd : dstB ops m = true) {K : St → Prop} :
    ∀ (π dn : List Nat) (listed : Array Bool) (acc : List (Nat × Oper)) (σ : St), ordB ops m fl π dn listed = true → (∀ p ∈ acc, ops[p.1]? = some p.2 ∧ p.1 < m ∧ p.1 ∈ dn ∧ pivQ p.2.op = false) → (∀ i ∈ dn, i ∉ π) →
      aqsN P ops fl K π acc σ → ∃ es, walkE P N ops K π es σ ∧ (∀ e ∈ es, FxOk ops m e) ∧ ∀ p ∈ acc, FlC P N ops p.1 (valD σ p.2) p.2 es σ
  | [], dn, listed, acc, σ, hB, hacc, hdn, h => ⟨[], ⟨rfl, h⟩, fun e he => (by cases he), fun p hp => trivial⟩
  | i :: π, dn, listed, acc, σ, hB, hacc, hdn, h => by
    unfold aqsN at h
    cases ho : ops[i]? with
    | none => rw [Array.getElem?_toList, ho] at h; exact h.elim
    | some o =>
    rw [Array.getElem?_toList, ho] at h
    simp only at h
    simp only [ordB, ho, Bool.and_eq_true, decide_eq_true_eq, Bool.not_eq_true'] at hB
    obtain ⟨⟨⟨⟨him, hnd⟩, hr⟩, hB0, hB1⟩, hB2⟩ := hB
    have hni : i ∉ π := by simpa using hnd
    obtain ⟨d, hdd⟩ : ∃ d, o.dst = some d := by
      cases q : o.dst with
      | none => rw [q] at hB0; cases hB0
      | some d => exact ⟨d, rfl⟩
    rw [hdd] at hB0
    simp only [Bool.and_eq_true, Bool.not_eq_true'] at hB0
    have hself : d ∉ o.looksAt ops := by simpa using hB0.1
    have hdis : ∀ k ok, ops[k]? = some ok → k < m → k ≠ i → ok.dst ≠ some d := fun k ok hk hkm hki e => by
      have := List.all_eq_true.1 (List.all_eq_true.1 hd k (List.mem_range.2 hkm)) i (List.mem_range.2 him)
      simp [hk, ho, hki, e, hdd] at this
    have hlk : ∀ p ∈ acc, d ∉ p.2.looksAt ops := fun p hp => by
      obtain ⟨q1, q2, q3, q4⟩ := hacc p hp
      have := List.all_eq_true.1 hB0.2 p.1 q3
      simpa [q1] using this
    have hpi : ∀ p ∈ acc, p.1 ≠ i := fun p hp e => hdn p.1 (hacc p hp).2.2.1 (by simp [e])
    have hvd : ∀ (τ : St) (z : T), ∀ p ∈ acc, valD (τ.put o.dst z) p.2 = valD τ p.2 := fun τ z p hp => by
      obtain ⟨q1, q2, q3, q4⟩ := hacc p hp
      unfold valD
      cases hpd : p.2.dst with
      | none => rfl
      | some d' =>
        have : d' ≠ d := fun e => hdis p.1 p.2 q1 q2 (hpi p hp) (by rw [hpd, e])
        simp [St.put, hdd, this]
    have hdn' : ∀ j ∈ i :: dn, j ∉ π := fun j hj => by
      rcases List.mem_cons.1 hj with rfl | hj
      · exact hni
      · exact fun q => hdn j hj (List.mem_cons_of_mem _ q)
    cases hp : pivQ o.op with
    | false =>
      rw [hp] at h
      obtain ⟨y, hy, hK⟩ := aqst_yl hc ⟨i, ho⟩ h
      obtain ⟨es, h1, h2, h3⟩ := walkE_of hc hd π (i :: dn) _ ((i, o) :: acc) _ hB2 (fun p hpm => by
        rcases List.mem_cons.1 hpm with rfl | hpm
        · exact ⟨ho, him, by simp, hp⟩
        · obtain ⟨q1, q2, q3, q4⟩ := hacc p hpm
          exact ⟨q1, q2, List.mem_cons_of_mem _ q3, q4⟩) hdn' hK
      have hne : ∀ e ∈ es, FxOk ops m e ∧ e.i ≠ i := fun e he => ⟨h2 e he, fun q => hni (q ▸ (walkE_mem _ _ _ h1 e he).1)⟩
      refine ⟨es, ⟨o, ho, .inl ⟨hp, y, hy, ?_, h1⟩⟩, h2, fun p hpm => ?_⟩
      · have q := h3 (i, o) (by simp)
        have hv : valD (σ.put o.dst y) o = y := by simp [valD, hdd, St.put]
        rw [hv] at q
        exact FlC.unput ho him (fun d' hd' => by rw [hdd] at hd'; injection hd' with e; subst e; exact hself) es σ y hne q
      · have q := h3 p (List.mem_cons_of_mem _ hpm)
        rw [hvd σ y p hpm] at q
        exact FlC.unput ho him (fun d' hd' => by rw [hdd] at hd'; injection hd' with e; subst e; exact hlk p hpm) es σ y hne q
    | true =>
      rw [hp] at h hB1
      simp only [if_true, Bool.and_eq_true, Option.isNone_iff_eq_none] at hB1
      simp only [aPivN] at h
      split at h
      · rename_i ob y σ' hop
        obtain ⟨hob, hflo, hK⟩ := h
        obtain ⟨θ, β, rfl, hcong⟩ := aop2_fxQ hp hop
        have hdN : ∀ d, o.dst = some d → d < N := fun d q => (chk_spec hc ho q).1
        have hS : SoundP P N ops o (Ef θ β o.dst y) σ := by
          intro σ1 e1 e2 x g a w hx hN hr
          refine ⟨by simp [Region.wanted, hB1.1.1], fun K Q hKK => ?_⟩
          have hop1 := hcong σ1 e2 (looks_op e1)
          subst hx
          obtain ⟨w', g', r0, r1⟩ := aop2_ok hop1 hob hr
          unfold Oper.wp
          rcases r1 with ⟨r, r1, r2⟩ | ⟨r1, r2⟩
          · rw [r1, Oper.upon_value]
            exact hKK _ _ _ (r0.put r2 o.dst (fun d q => by rw [hN]; exact hdN d q))
          · rw [r1, Oper.upon_skip]
            exact hKK _ _ _ (r0.put (y := y) (v := undef) (by rw [r2]; trivial) o.dst (fun d q => by rw [hN]; exact hdN d q))
        obtain ⟨es, h1, h2, h3⟩ := walkE_of hc hd π (i :: dn) _ (acc.filter fun p => fl i p.1) _ hB2 (fun p hpm => by
          obtain ⟨q1, q2, q3, q4⟩ := hacc p (List.mem_filter.1 hpm).1
          exact ⟨q1, q2, List.mem_cons_of_mem _ q3, q4⟩) hdn' hK
        refine ⟨⟨i, Ef θ β o.dst y, θ⟩ :: es, ⟨o, ho, .inr ⟨hp, _, es, rfl, rfl, hS, h1⟩⟩, fun e he => ?_, fun p hpm => ?_⟩
        · rcases List.mem_cons.1 he with rfl | he
          · exact fun τ k ok z hk hkm hki => Ef_put τ ok.dst z (fun _ q => hdis k ok hk hkm hki (by rw [q, hdd]))
          · exact h2 e he
        · obtain ⟨q1, q2, q3, q4⟩ := hacc p hpm
          have hb := List.all_eq_true.1 hB1.2 p.1 q3
          simp only [q1, q4, Bool.false_or, Bool.or_eq_true] at hb
          rcases hb with hb | hb
          · exact .inl hb
          · right
            have hpf : p ∈ acc.filter fun p => fl i p.1 := List.mem_filter.2 ⟨hpm, hb⟩
            obtain ⟨d', e1, e3, e2⟩ := aFlQ_mem hflo p.2 (List.mem_map.2 ⟨p, hpf, rfl⟩)
            have hv : valD σ p.2 = σ.t d' := by simp [valD, e1]
            have hne : d' ≠ d := fun e => hdis p.1 p.2 q1 q2 (hpi p hpm) (by rw [e1, e])
            have hθ : ((St.mk (fun i => θ (σ.t i)) (β σ.b)).put o.dst y).t d' = θ (σ.t d') := by simp [St.put, hdd, hne]
            refine ⟨?_, ?_, ?_⟩
            · rw [hv]; exact hθ.symm.trans e3
            · rw [hv]
              obtain ⟨y', hy', hKy⟩ := aqst_yl (N := N) hc (o := p.2) ⟨p.1, q1⟩ e2
              have : y' = σ.t d' := by
                simpa [St.put, e1] using hKy
              rw [← this]; exact hy'
            · have q := h3 p hpf
              have : valD ((St.mk (fun i => θ (σ.t i)) (β σ.b)).put o.dst y) p.2 = valD σ p.2 := by simp only [valD, e1]; exact e3
              rw [this] at q
              exact q
      · exact h.elim
/-- the region's form, looked at once: the order, and the tail behind it. -/
def drawQB (ops : Array Oper) (m : Nat) (fl : Nat → Nat → Bool) (π : List Nat) : Bool :=
  decide (m ≤ ops.size) && (π.length == m) && dstB ops m &&
  ((List.range ops.size).all fun i => match ops[i]? with | some o => o.after.all fun e => !Region.binds .any e || decide (e.on < i) | none => true) &&
  ((List.range ops.size).all fun j => decide (j < m) || (((List.range m).all fun i => bnd ops j i) && (j == m || bnd ops j (j - 1)))) &&
  ordB ops m fl π [] (Array.replicate ops.size false)
theorem AC_drawQ {P : Program} {N : Nat} {K : Exit → St → Prop} {id : Nat} {l : List Oper} {σ : St} (m : Nat) (fl : Nat → Nat → Bool) (π : List Nat) (hm : P.follows .mixedOrders = true) (hB : drawQB l.toArray m fl π = true) (hc : chk N l.toArray = true)
    (h : aqsN P l.toArray fl (aops P l.toArray (K .normal) (l.drop m)) π [] σ) : AC P N (.region id l.toArray true) K σ := by
  intro x g a w Q hx hN hr hQ
  unfold drawQB at hB
  simp only [Bool.and_eq_true, decide_eq_true_eq, beq_iff_eq] at hB
  obtain ⟨⟨⟨⟨⟨b0, bl⟩, b1⟩, b2⟩, b3⟩, b4⟩ := hB
  have hget : ∀ j : Nat, l.toArray[j]? = l[j]? := fun j => by simp
  have hsz : l.toArray.size = l.length := by simp
  have hb : ∀ i o, l.toArray[i]? = some o → ∀ e ∈ o.after, Region.binds .any e = true → e.on < i := fun i o ho e he hbd => by
    have hi := (Array.getElem?_eq_some_iff.1 ho).1
    have := all_range b2 hi
    simp only [ho] at this
    have := Array.all_eq_true'.1 this e he
    simpa [hbd] using this
  have htl : ∀ j, m ≤ j → j < l.toArray.size → ∀ i, i < m → bnd l.toArray j i = true := fun j hj hjs i hi => by
    have := all_range b3 hjs
    simp only [Bool.or_eq_true, decide_eq_true_eq, Bool.and_eq_true] at this
    rcases this with q | q
    · omega
    · exact all_range q.1 hi
  have htc : ∀ j, m < j → j < l.toArray.size → bnd l.toArray j (j - 1) = true := fun j hj hjs => by
    have := all_range b3 hjs
    simp only [Bool.or_eq_true, decide_eq_true_eq, Bool.and_eq_true, beq_iff_eq] at this
    rcases this with q | ⟨-, q | q⟩
    · omega
    · omega
    · exact q
  obtain ⟨es, h1, h2, -⟩ := walkE_of (N := N) hc b1 π [] _ [] σ b4 (fun p hp => by cases hp) (fun i hi => by cases hi) h
  have hA := aAnyE_walk (P := P) (N := N) htl π [] _ es σ b4 h2 (by simp) (fun k o hk hl => by
    rw [Array.getD_eq_getD_getElem?] at hl
    rcases Nat.lt_or_ge k (Array.replicate l.toArray.size false).size with q | q
    · rw [Array.getElem?_eq_getElem q] at hl; simp at hl
    · rw [Array.getElem?_eq_none q] at hl; simp at hl) h1
  refine wp_region_any hm ?_
  have hfin := wpAny_of_aAnyE (K := aops P l.toArray (K .normal) (l.drop m)) (Q := Q) (n := (l.drop m).length) hx hN b0 (fun σ' g' a' w' listed hs hl1 hl2 hr' hK' => by
    refine wpAny_tail hb (l.drop m) m listed a' w' (by rw [hsz] at b0 ⊢; simp; omega) (fun j hj => by rw [hget]; simp) (fun j hj hjs => htc j hj hjs) hs hl1 hl2 ?_
    subst hx hN
    exact aops_sound hc (fun σ' g' a' w' hr' hK => hQ _ _ _ _ _ hr' hK) _ (fun o ho d hd => by
      obtain ⟨j, hj⟩ := List.mem_iff_getElem?.1 ho
      rw [List.getElem?_drop] at hj
      exact chk_spec hc (j := m + j) (o := o) (by rw [hget]; exact hj) hd) _ _ _ _ hr' hK') π.length (Array.replicate l.toArray.size false) es σ g a w.drew (by simp) (fun j hj hjs => by simp at hjs ⊢; simp [hjs]) hr.drew hA
  have e : (l.drop m).length + π.length = l.toArray.size := by rw [bl]; simp at b0 ⊢; omega
  rw [e] at hfin
  exact hfin
end Go.Proofs.Ytmopjpnghomdfaa
