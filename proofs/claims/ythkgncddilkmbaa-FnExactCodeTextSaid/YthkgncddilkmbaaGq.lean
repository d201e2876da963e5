import Derived.Test.YthkgncddilkmbaaGp
/- The second engine, seventeenth part: what operations look at; what effects have in common. -/
namespace Go.Proofs.Ythkgncddilkmbaa
set_option linter.unusedVariables false
set_option linter.unusedSimpArgs false
open Go.RowKit
section
variable {P : Program} {N : Nat} {ops : Array Oper} {K : St → Prop}
/-- whatever else the slots hold, the operation yields y. -/
def Yl (P : Program) (N : Nat) (ops : Array Oper) (o : Oper) (σ : St) (y : D) : Prop :=
  ∀ σ' : St, (∀ t ∈ o.looksAt ops, σ'.t t = σ.t t) → σ'.b = σ.b → ∀ (x : Cx) (g : Gh) (a : Act) (w : World), x.P = P → x.N = N → Rel x g σ' a w →
    (Region.wanted o (yielded ops a.tmps) = true ∧ ∀ (K : Act → World → Prop) (Q : Exit → Act → World → Prop), (∀ g' a' w', Rel x g' (σ'.put o.dst y) a' w' → K a' w') → o.wp P a w K Q) ∨
    (Region.wanted o (yielded ops a.tmps) = false ∧ Rel x g (σ'.put o.dst y) (a.put o.dst undef) w)
theorem St.put_comm (σ : St) {d e : Option Tmp} (u v : D) (h : ∀ i, d = some i → e ≠ some i) : (σ.put d u).put e v = (σ.put e v).put d u := by
  cases d with
  | none => rfl
  | some d =>
    cases e with
    | none => rfl
    | some e =>
      have hne : d ≠ e := fun q => h d rfl (q ▸ rfl)
      simp only [St.put]
      congr 1
      funext i
      by_cases h1 : i = e
      · simp [h1, Ne.symm hne]
      · simp [h1]
theorem St.put_other (σ : St) {d : Option Tmp} (u : D) {l : List Tmp} (h : ∀ i, d = some i → i ∉ l) : ∀ t ∈ l, (σ.put d u).t t = σ.t t := by
  intro t ht
  cases d with
  | none => rfl
  | some d =>
    have : t ≠ d := fun q => h d rfl (q ▸ ht)
    simp [St.put, this]
theorem St.put_b (σ : St) (d : Option Tmp) (u : D) : (σ.put d u).b = σ.b := by cases d <;> rfl
theorem Yl.put {o : Oper} {σ : St} {y : D} (h : Yl P N ops o σ y) {d : Option Tmp} (u : D) (hd : ∀ i, d = some i → i ∉ o.looksAt ops) : Yl P N ops o (σ.put d u) y := by
  intro σ' h1 h2
  exact h σ' (fun t ht => (h1 t ht).trans (St.put_other σ u hd t ht)) (h2.trans (St.put_b _ _ _))
theorem Yl.unput {o : Oper} {σ : St} {y : D} {d : Option Tmp} {u : D} (h : Yl P N ops o (σ.put d u) y) (hd : ∀ i, d = some i → i ∉ o.looksAt ops) : Yl P N ops o σ y := by
  intro σ' h1 h2
  exact h σ' (fun t ht => (h1 t ht).trans (St.put_other σ u hd t ht).symm) (h2.trans (St.put_b _ _ _).symm)
end
/-! ### what operations look at -/
theorem ev_congr {σ σ' : St} {z : Operand} (h : ∀ t, z = .tmp t → σ'.t t = σ.t t) : ev σ' z = ev σ z := by
  cases z with
  | tmp t => exact h t rfl
  | const v => rfl
  | global _ => rfl
  | func _ => rfl
theorem looks_op {ops : Array Oper} {o : Oper} {σ σ' : St} (h : ∀ t ∈ o.looksAt ops, σ'.t t = σ.t t) : ∀ z ∈ o.op.operands, ev σ' z = ev σ z := fun z hz =>
  ev_congr fun t ht => h t (by
    subst ht
    exact List.mem_append_left _ (List.mem_filterMap.2 ⟨.tmp t, by simpa using hz, rfl⟩))
theorem aLoad_congr {P : Program} {σ σ' : St} (hb : σ'.b = σ.b) (t : TypeId) (x : D) : aLoad P σ' t x = aLoad P σ t x := by unfold aLoad; rw [hb]
theorem aop1_congr {P : Program} {σ σ' : St} (op : Op) (h : ∀ z ∈ op.operands, ev σ' z = ev σ z) (hb : σ'.b = σ.b) : aop1 P σ' op = aop1 P σ op := by
  cases op <;> simp only [Op.operands] at h <;> simp only [aop1]
  case slice t x lo hi mx =>
    cases mx with
    | some _ => rfl
    | none =>
      have hx := h x (by simp)
      cases lo <;> cases hi <;> simp_all
  case call c =>
    obtain ⟨callee, args, ts⟩ := c
    cases callee with
    | builtin b =>
      cases b <;> try rfl
      simp only [aop1]
      cases ha : args.toList with
      | nil => rfl
      | cons z l =>
        cases l with
        | nil =>
          cases ht : ts.toList with
          | nil => rfl
          | cons t l' =>
            cases l' with
            | nil => dsimp only; rw [h z (by simp [Call.operands, ← Array.mem_toList_iff, ha])]
            | cons _ _ => rfl
        | cons _ _ => rfl
    | value _ => rfl
    | invoke _ _ => rfl
  all_goals (first | rfl | (simp only [aLoad_congr hb]; simp_all; done) | (simp_all; done))
theorem aCaps_congr {σ σ' : St} : ∀ (l : List Operand), (∀ z ∈ l, ev σ' z = ev σ z) → aCaps σ' l = aCaps σ l
  | [], _ => rfl
  | z :: l, h => by
    unfold aCaps
    rw [h z (by simp), aCaps_congr l (fun y hy => h y (by simp [hy]))]
theorem aopP_congr {P : Program} {σ σ' : St} (op : Op) (h : ∀ z ∈ op.operands, ev σ' z = ev σ z) (hb : σ'.b = σ.b) : aopP P σ' op = aopP P σ op := by
  unfold aopP
  rw [aop1_congr op h hb]
  split
  · rfl
  · unfold aopF
    cases op <;> try rfl
    rename_i fn first caps _
    cases fn <;> try rfl
    simp only [Op.operands] at h
    try dsimp only
    rw [aCaps_congr _ (fun z hz => h z (by simp; right; simpa using hz))]
theorem grd_congr {ops : Array Oper} {o : Oper} {σ σ' : St} (h : ∀ t ∈ o.looksAt ops, σ'.t t = σ.t t) {j : Nat} {want : Bool} (hg : o.guard = some (j, want)) : grd ops σ' j want = grd ops σ j want := by
  unfold grd
  cases hd : dstAt ops j with
  | none => rfl
  | some t => dsimp only; rw [h t (by unfold dstAt at hd; simp [Oper.looksAt, hg, hd])]
section
variable {σ σ' : St} (hb : σ'.b = σ.b)
include hb
theorem fdC_b (c : D) : fdC σ' c = fdC σ c := by cases c <;> first | rfl | simp only [fdC, hb]
theorem fdL_b : ∀ l : List D, fdL σ' l = fdL σ l
  | [] => rfl
  | c :: l => by unfold fdL; rw [fdC_b hb, fdL_b l]
theorem fdB_b (c : D) : fdB σ' c = fdB σ c := by
  cases c <;> first | (simp only [fdB]; exact fdC_b hb _) | (simp only [fdB, hb, fdL_b hb]; done)
theorem idB_b (c : D) : idB σ' c = idB σ c := by cases c <;> first | rfl | simp only [idB, hb]
theorem argC_b (m : Nat) (c : D) : argC σ' m c = argC σ m c := by unfold argC; rw [fdC_b hb, fdB_b hb]
theorem argL_b (m : Nat) : ∀ l : List D, argL σ' m l = argL σ m l
  | [] => rfl
  | c :: l => by unfold argL; rw [argC_b hb, argL_b m l]
theorem argD_b (m : Nat) (c : D) : argD σ' m c = argD σ m c := by cases c <;> first | rfl | (simp only [argD]; exact argC_b hb m _) | (simp only [argD, argL_b hb]; done)
theorem bsL_b : ∀ l : List D, bsL σ' l = bsL σ l
  | [] => rfl
  | c :: l => by unfold bsL; rw [idB_b hb, bsL_b l]
theorem aArgs_congr (md : List Nat) : ∀ (l : List Operand) (j : Nat), (∀ z ∈ l, ev σ' z = ev σ z) → aArgs σ' md j l = aArgs σ md j l
  | [], _, _ => rfl
  | z :: l, j, h => by
    unfold aArgs
    rw [h z (by simp), argD_b hb, bsL_b hb, aArgs_congr md l (j + 1) (fun y hy => h y (by simp [hy]))]
theorem aRows_congr {k : Nat} : ∀ (l : List (Nat × Operand)) (j : Nat), (∀ z ∈ l, ev σ' z.2 = ev σ z.2) → aRows σ' k j l = aRows σ k j l
  | [], _, _ => rfl
  | (i, z) :: l, j, h => by
    unfold aRows
    rw [h (i, z) (by simp), aRows_congr l (j + 1) (fun y hy => h y (by simp [hy]))]
    simp only [fdL_b hb]
omit hb in
theorem aFill_congr {fs : List (Nat × Nat × Bool)} : ∀ (l : List (Nat × Operand)) (cells : List D), (∀ z ∈ l, ev σ' z.2 = ev σ z.2) → aFill σ' fs cells l = aFill σ fs cells l
  | [], _, _ => rfl
  | (i, z) :: l, cells, h => by
    have e : ev σ' z = ev σ z := h (i, z) (by simp)
    unfold aFill
    rw [e]
    cases fs[i]? with
    | none => rfl
    | some p =>
      obtain ⟨off, sz, ag⟩ := p
      cases cellsE (bodyT (ev σ z)) with
      | none => rfl
      | some xs => simp only [aFill_congr l _ (fun y hy => h y (by simp [hy]))]
theorem aopB_congr {P : Program} (op : Op) (h : ∀ z ∈ op.operands, ev σ' z = ev σ z) : aopB P σ' op = aopB P σ op := by
  unfold aopB
  cases op <;> try rfl
  · rename_i t parts
    simp only [Op.operands] at h
    simp only [aBuild]
    cases tk P t <;> try rfl
    simp only
    rw [aFill_congr _ _ (fun z hz => h z.2 (by simp; exact ⟨z.1, by simpa using hz⟩))]
  · rename_i t len parts
    simp only [Op.operands] at h
    dsimp only
    cases tk P t <;> try rfl
    dsimp only
    rw [aRows_congr hb _ _ (fun z hz => h z.2 (by simp; exact ⟨z.1, by simpa using hz⟩))]
omit hb in
theorem aFn_congr (op : Op) (h : ∀ z ∈ op.operands, ev σ' z = ev σ z) : aFn σ' op = aFn σ op := by
  unfold aFn
  cases op <;> try rfl
  rename_i c
  obtain ⟨callee, args, ts⟩ := c
  cases callee <;> try rfl
  rename_i fo
  simp only [Op.operands, Call.operands] at h
  dsimp only
  rw [h fo (by simp)]
theorem srcK_b (k : Nat) (c : D) : srcK σ' k c = srcK σ k c := by cases c <;> first | rfl | simp only [srcK, hb]
end
theorem aFn_ops {σ : St} {op : Op} {ob : Prop} {f : FuncId} {caps : List D} {l : List Operand} (h : aFn σ op = some (ob, f, caps, l)) : ∀ z ∈ l, z ∈ op.operands := by
  unfold aFn at h
  split at h
  · rename_i fo args ts
    split at h
    · injection h with h; injection h with e1 e2; injection e2 with e2 e3; injection e3 with e3 e4
      subst e4
      intro z hz
      simp only [Op.operands, Call.operands]
      simp; right; simpa using hz
    · cases h
  · cases h
/-! ### effects: slots are changed one by one, objects as a whole -/
def Ef (θ : D → D) (B : Nat → Option Ob) (dst : Option Tmp) (Y : D) (σ : St) : St := (St.mk (fun i => θ (σ.t i)) B).put dst Y
theorem Ef_put {θ : D → D} {B : Nat → Option Ob} {dst : Option Tmp} {Y : D} (σ : St) (d : Option Tmp) (z : D) (h : d ≠ none → d ≠ dst) : Ef θ B dst Y (σ.put d z) = (Ef θ B dst Y σ).put d (θ z) := by
  cases d with
  | none => rfl
  | some d =>
    have h := h (by simp)
    cases dst with
    | none =>
      simp only [Ef, St.put]
      congr 1
      funext i
      by_cases e : i = d <;> simp [e]
    | some e' =>
      have hne : d ≠ e' := fun q => h (by rw [q])
      simp only [Ef, St.put]
      congr 1
      funext i
      by_cases e1 : i = e'
      · subst e1; simp [Ne.symm hne]
      · by_cases e : i = d <;> simp [e, e1, hne]
def Shp {α : Type} (σ : St) (R : St → Prop) (F : St → Option (α × St)) (a : α) : Prop := ∃ (θ : D → D) (B : Nat → Option Ob), ∀ τ : St, τ.b = σ.b → R τ → F τ = some (a, ⟨fun i => θ (τ.t i), B⟩)
theorem foldB_shp {σ σ' : St} {id : Nat} {ob : Prop} {ds : List D} (h : foldB σ id = some (ob, ds, σ')) : ∃ (θ : D → D) (B : Nat → Option Ob), ∀ τ : St, τ.b = σ.b → foldB τ id = some (ob, ds, ⟨fun i => θ (τ.t i), B⟩) := by
  unfold foldB at h
  split at h
  · rename_i row hb
    split at h
    · rename_i ob' ds' hf
      injection h with h; injection h with e1 e2; injection e2 with e2 e3
      subst e1 e2 e3
      refine ⟨scT (pOut (idsC row)), ((σ.sc (pOut (idsC row)) (pOut (idsC row))).setB id (.box ds')).b, fun τ hτ => ?_⟩
      unfold foldB
      simp only [hτ, hb, fdL_b hτ, hf]
      congr 3
      unfold St.setB St.sc
      simp only [hτ]
    · cases h
  · cases h
theorem prepC_shp {σ σ' : St} {m : Nat} {c : D} {ob : Prop} (h : prepC σ m c = some (ob, σ')) : Shp σ (fun _ => True) (fun τ => prepC τ m c) ob := by
  have same : prepC σ m c = some (ob, σ) → (∀ τ : St, τ.b = σ.b → ∃ o, prepC τ m c = some (o, τ) ∧ o = ob) → Shp σ (fun _ => True) (fun τ => prepC τ m c) ob := fun h1 h2 => by
    refine ⟨fun y => y, σ.b, fun τ hτ _ => ?_⟩
    obtain ⟨o, q1, rfl⟩ := h2 τ hτ
    show prepC τ m c = _
    rw [q1, ← hτ]
  unfold prepC at h
  split at h
  · rename_i hid
    injection h with h; injection h with e1 e2; subst e1 e2
    exact same (by unfold prepC; rw [hid]) (fun τ hτ => ⟨True, by unfold prepC; rw [hid], rfl⟩)
  · rename_i id hid
    split at h
    · rename_i row hb
      split at h
      · rename_i ob' ds σ1 hf
        injection h with h; injection h with e1 e2
        subst e1
        obtain ⟨θ, B, hs⟩ := foldB_shp hf
        by_cases hm : m = 2
        · refine ⟨fun y => frT id (.box ds) (θ y), fun i => if i = id then none else (B i).map (frO id (.box ds)), fun τ hτ _ => ?_⟩
          show prepC τ m c = _
          unfold prepC
          simp only [hid, hτ, hb, hs τ hτ, if_pos hm]
          rfl
        · refine ⟨θ, B, fun τ hτ _ => ?_⟩
          show prepC τ m c = _
          unfold prepC
          simp only [hid, hτ, hb, hs τ hτ, if_neg hm]
      · cases h
    · rename_i e k rows hb
      injection h with h; injection h with e1 e2
      subst e1
      by_cases hm : m = 2
      · refine ⟨fun y => frT id (.arr e k rows) y, fun i => if i = id then none else (σ.b i).map (frO id (.arr e k rows)), fun τ hτ _ => ?_⟩
        show prepC τ m c = _
        unfold prepC
        simp only [hid, hτ, hb, if_pos hm]
        unfold St.fr
        simp only [hτ]
      · rw [if_neg hm] at e2
        subst e2
        exact same (by unfold prepC; simp only [hid, hb, if_neg hm]) (fun τ hτ => ⟨True, by unfold prepC; simp only [hid, hτ, hb, if_neg hm], rfl⟩)
    · cases h
theorem prepL_shp {m : Nat} : ∀ (l : List D) {σ σ' : St} {ob : Prop}, prepL m l σ = some (ob, σ') → Shp σ (fun _ => True) (fun τ => prepL m l τ) ob
  | [], σ, σ', ob, h => by
    injection h with h; injection h with e1 e2; subst e1 e2
    exact ⟨fun y => y, σ.b, fun τ hτ _ => by show some (True, τ) = _; rw [← hτ]⟩
  | c :: l, σ, σ', ob, h => by
    unfold prepL at h
    split at h
    · rename_i o1 σ1 h1
      split at h
      · rename_i o2 σ2 h2
        injection h with h; injection h with e1 e2
        subst e1 e2
        obtain ⟨θ, B, hs⟩ := prepC_shp h1
        have e := hs σ rfl trivial
        simp only [h1] at e
        injection e with e; injection e with _ e
        obtain ⟨θ2, B2, hs2⟩ := prepL_shp l h2
        refine ⟨fun y => θ2 (θ y), B2, fun τ hτ _ => ?_⟩
        show prepL m (c :: l) τ = _
        unfold prepL
        have q1 := hs τ hτ trivial
        have q2 := hs2 ⟨fun i => θ (τ.t i), B⟩ (by rw [e]) trivial
        simp only at q1 q2
        simp only [q1, q2]
      · cases h
    · cases h
theorem ev_th {σ τ : St} {θ : D → D} {B B' : Nat → Option Ob} {z : Operand} (h : ev τ z = ev σ z) : ev ⟨fun i => θ (τ.t i), B⟩ z = ev ⟨fun i => θ (σ.t i), B'⟩ z := by
  cases z with
  | tmp t => exact congrArg θ h
  | const v => rfl
  | func f => rfl
  | global _ => rfl
theorem prepA_shp {md : List Nat} : ∀ (l : List Operand) (j : Nat) {σ σ' : St} {ob : Prop}, prepA md j l σ = some (ob, σ') → Shp σ (fun τ => ∀ z ∈ l, ev τ z = ev σ z) (fun τ => prepA md j l τ) ob
  | [], j, σ, σ', ob, h => by
    injection h with h; injection h with e1 e2; subst e1 e2
    exact ⟨fun y => y, σ.b, fun τ hτ _ => by show some (True, τ) = _; rw [← hτ]⟩
  | z :: l, j, σ, σ', ob, h => by
    unfold prepA at h
    split at h
    · rename_i hm
      obtain ⟨θ, B, hs⟩ := prepA_shp l (j + 1) h
      refine ⟨θ, B, fun τ hτ hv => ?_⟩
      show prepA md j (z :: l) τ = _
      unfold prepA
      rw [if_pos hm]
      exact hs τ hτ (fun y hy => hv y (by simp [hy]))
    · rename_i hm
      split at h
      · rename_i o1 σ1 h1
        split at h
        · rename_i o2 σ2 h2
          injection h with h; injection h with e1 e2
          subst e1 e2
          obtain ⟨θ, B, hs⟩ := prepL_shp _ h1
          have e := hs σ rfl trivial
          simp only [h1] at e
          injection e with e; injection e with _ e
          obtain ⟨θ2, B2, hs2⟩ := prepA_shp l (j + 1) h2
          refine ⟨fun y => θ2 (θ y), B2, fun τ hτ hv => ?_⟩
          show prepA md j (z :: l) τ = _
          unfold prepA
          rw [if_neg hm, hv z (by simp)]
          have q1 := hs τ hτ trivial
          have q2 := hs2 ⟨fun i => θ (τ.t i), B⟩ (by rw [e]) (fun y hy => by rw [e]; exact ev_th (hv y (by simp [hy])))
          simp only at q1 q2
          simp only [q1, q2]
        · cases h
      · cases h
theorem reop_shp : ∀ (l : List Gv) {σ σ' : St} {ob : Prop}, reop l σ = some (ob, σ') → Shp σ (fun _ => True) (fun τ => reop l τ) ob
  | [], σ, σ', ob, h => by
    injection h with h; injection h with e1 e2; subst e1 e2
    exact ⟨fun y => y, σ.b, fun τ hτ _ => by show some (True, τ) = _; rw [← hτ]⟩
  | (i, j, l') :: l, σ, σ', ob, h => by
    unfold reop at h
    split at h
    · rename_i row hb
      split at h
      · rename_i o σ1 h1
        injection h with h; injection h with e1 e2
        subst e1 e2
        obtain ⟨θ, B, hs⟩ := reop_shp l h1
        refine ⟨fun y => θ (scT (pUn i row) y), B, fun τ hτ _ => ?_⟩
        show reop ((i, j, l') :: l) τ = _
        unfold reop
        have q := hs (τ.unfB i row) (by unfold St.unfB; simp only [hτ]) trivial
        simp only at q
        simp only [hτ, hb, q]
        rfl
      · cases h
    · rename_i hno
      obtain ⟨θ, B, hs⟩ := reop_shp l h
      refine ⟨θ, B, fun τ hτ _ => ?_⟩
      show reop ((i, j, l') :: l) τ = _
      have q := hs τ hτ trivial
      unfold reop
      rw [hτ]
      split
      · rename_i row hb; exact absurd hb (hno row)
      · exact q
end Go.Proofs.Ythkgncddilkmbaa
