import Derived.Test.YtgcdbmcoendcdaaGreatGoB
import Derived.Deep.LoopGhost
/- The second engine, eighteenth part: regions that draw their order, walked in an order of one's own. -/
namespace Go.Proofs.YtgcdbmcoendcdaaGreat
set_option linter.unusedVariables false
set_option linter.unusedSimpArgs false
open Go.RowKit
def bnd (ops : Array Oper) (j i : Nat) : Bool := match ops[j]? with
  | some o => o.after.any fun e => Region.binds .any e && e.on == i
  | none => false
theorem bnd_spec {ops : Array Oper} {j i : Nat} (h : bnd ops j i = true) : ∃ o e, ops[j]? = some o ∧ e ∈ o.after ∧ Region.binds .any e = true ∧ e.on = i := by
  unfold bnd at h
  split at h
  · rename_i o ho
    obtain ⟨e, he, hb⟩ := Array.any_eq_true'.1 h
    simp only [Bool.and_eq_true, beq_iff_eq] at hb
    exact ⟨o, e, ho, he, hb.1, hb.2⟩
  · cases h
def ancB (ops : Array Oper) (m : Nat) : Nat → Nat → Bool
  | 0, _ => false
  | f + 1, i => bnd ops m i || (List.range m).any fun k => bnd ops k i && ancB ops m f k
def Closed (ops : Array Oper) (listed : Array Bool) : Prop := ∀ k o, ops[k]? = some o → listed.getD k false = true → ∀ e ∈ o.after, Region.binds .any e = true → listed.getD e.on false = true
theorem anc_listed {ops : Array Oper} {m : Nat} {listed : Array Bool} (hc : Closed ops listed) (hm : m ∈ Region.ready .any ops listed) : ∀ (f i : Nat), ancB ops m f i = true → listed.getD i false = true
  | 0, _, h => by cases h
  | f + 1, i, h => by
    unfold ancB at h
    rcases Bool.or_eq_true_iff.1 h with h | h
    · obtain ⟨o, e, ho, he, hb, rfl⟩ := bnd_spec h
      obtain ⟨-, o', ho', hall⟩ := mem_ready.1 hm
      rw [ho] at ho'; injection ho' with ho'; subst ho'
      exact hall e he hb
    · obtain ⟨k, -, hk⟩ := List.any_eq_true.1 h
      simp only [Bool.and_eq_true] at hk
      obtain ⟨o, e, ho, he, hb, rfl⟩ := bnd_spec hk.1
      exact hc k o ho (anc_listed hc hm f k hk.2) e he hb
theorem closed_set {ops : Array Oper} {listed : Array Bool} (hc : Closed ops listed) {j : Nat} (hj : j ∈ Region.ready .any ops listed) : Closed ops (listed.setIfInBounds j true) := by
  intro k o ho hk e he hb
  refine getD_set_true ?_
  by_cases hjk : j = k
  · subst hjk
    obtain ⟨-, o', ho', hall⟩ := mem_ready.1 hj
    rw [ho] at ho'; injection ho' with ho'; subst ho'
    exact hall e he hb
  · rw [getD_set_ne false hjk] at hk
    exact hc k o ho hk e he hb
section
variable {P : Program} {N : Nat} {ops : Array Oper} {m : Nat} {E : St → St} {K : St → Prop}
def SoundP (P : Program) (N : Nat) (ops : Array Oper) (o : Oper) (E : St → St) (σ : St) : Prop :=
  ∀ σ1 : St, (∀ t ∈ o.looksAt ops, σ1.t t = σ.t t) → σ1.b = σ.b → ∀ (x : Cx) (g : Gh) (a : Act) (w : World), x.P = P → x.N = N → Rel x g σ1 a w →
    Region.wanted o (yielded ops a.tmps) = true ∧ ∀ (K : Act → World → Prop) (Q : Exit → Act → World → Prop), (∀ g' a' w', Rel x g' (E σ1) a' w' → K a' w') → o.wp P a w K Q
theorem SoundP.unput {o : Oper} {σ : St} {d : Option Tmp} {u : D} (h : SoundP P N ops o E (σ.put d u)) (hd : ∀ i, d = some i → i ∉ o.looksAt ops) : SoundP P N ops o E σ := by
  intro σ1 h1 h2
  exact h σ1 (fun t ht => (h1 t ht).trans (St.put_other σ u hd t ht).symm) (h2.trans (St.put_b _ _ _).symm)
theorem wpAny_tail {Q : Exit → Act → World → Prop} (hb : ∀ i o, ops[i]? = some o → ∀ e ∈ o.after, Region.binds .any e = true → e.on < i) :
    ∀ (l : List Oper) (k : Nat) (listed : Array Bool) (a : Act) (w : World), k + l.length = ops.size → (∀ j, j < l.length → l[j]? = ops[k + j]?) → (∀ j, k < j → j < ops.size → bnd ops j (j - 1) = true) → listed.size = ops.size →
      (∀ j, j < k → listed.getD j true = true) → (∀ j, k ≤ j → j < ops.size → listed.getD j true = false) → wpList P ops Q l a w → wpAny P .any ops Q l.length listed a w
  | [], k, listed, a, w, hk, hl, ht, hsz, hlt, hge, h => by
    refine ⟨?_, h⟩
    cases hr : Region.ready .any ops listed with
    | nil => rfl
    | cons i r =>
      have hi : i ∈ Region.ready .any ops listed := by rw [hr]; simp
      obtain ⟨hiu, oi, hoi, -⟩ := mem_ready.1 hi
      have := (Array.getElem?_eq_some_iff.1 hoi).1
      simp at hk
      rw [hlt i (by omega)] at hiu
      cases hiu
  | o :: l, k, listed, a, w, hk, hl, ht, hsz, hlt, hge, h => by
    have h0 : ops[k]? = some o := by have := hl 0 (by simp); simpa using this.symm
    have hklt : k < ops.size := (Array.getElem?_eq_some_iff.1 h0).1
    have hr : k ∈ Region.ready .any ops listed := mem_ready.2 ⟨hge k (Nat.le_refl _) hklt, o, h0, fun e he hb' => by
      have h1 := hb k o h0 e he hb'
      have h2 := hlt e.on h1
      have : e.on < listed.size := by omega
      simpa [this] using h2⟩
    have ih := wpAny_tail (Q := Q) hb l (k + 1) (listed.setIfInBounds k true)
    have ih' : ∀ a w, wpList P ops Q l a w → wpAny P .any ops Q l.length (listed.setIfInBounds k true) a w := fun a w => ih a w (by simp at hk; omega) (fun j hj => by have := hl (j + 1) (by simp; omega); simpa [Nat.add_assoc, Nat.add_comm 1 j] using this) (fun j hj => ht j (by omega)) (by simpa using hsz) (fun j hj => by
      by_cases e : k = j
      · subst e
        have : k < listed.size := by omega
        simp [this]
      · rw [getD_set_ne true e]; exact hlt j (by omega)) (fun j hj hjs => by rw [getD_set_ne true (by omega)]; exact hge j (by omega) hjs)
    refine ⟨fun q => (by rw [q] at hr; cases hr), fun i hi => ?_⟩
    obtain ⟨hiu, oi, hoi, hall⟩ := mem_ready.1 hi
    have hik : i = k := by
      rcases Nat.lt_trichotomy i k with q | q | q
      · rw [hlt i q] at hiu; cases hiu
      · exact q
      · exfalso
        have hilt : i < ops.size := (Array.getElem?_eq_some_iff.1 hoi).1
        obtain ⟨o', e, ho', he, hb', hon⟩ := bnd_spec (ht i q hilt)
        rw [hoi] at ho'; injection ho' with ho'; subst ho'
        have h1 := hall e he hb'
        have h2 := hge (i - 1) (by omega) (by omega)
        have h3 : i - 1 < listed.size := by omega
        rw [hon] at h1
        simp [h3] at h1 h2; rw [h2] at h1; cases h1
    subst hik
    unfold wpOp
    simp only [h0]
    unfold wpList at h
    split
    · rename_i hw
      rw [if_pos hw] at h
      exact h.imp (Oper.wp_mono ih') id
    · rename_i hw
      rw [if_neg hw] at h
      exact ih' _ _ h
end
theorem all_range {n : Nat} {p : Nat → Bool} (h : (List.range n).all p = true) {i : Nat} (hi : i < n) : p i = true := List.all_eq_true.1 h i (List.mem_range.2 hi)
def aqst (M : Md) (ops : Array Oper) (o : Oper) (σ : St) (K : St → Prop) : Prop := match o.guard with
  | none => match aopP M.P σ o.op with
    | some (ob, y) => ob ∧ K (σ.put o.dst y)
    | none => match aopB M.P σ o.op with
      | some (ob, y) => ob ∧ K (σ.put o.dst y)
      | none => ACallQ M.P σ o true id K
  | some (j, want) => match grd ops σ j want with
    | none => False
    | some c => if (M.lit && !c) = true then K (σ.put o.dst (gdT false .un)) else match aopP M.P σ o.op with
      | some (ob, y) => (c = true → ob) ∧ K (σ.put o.dst (gdT c y))
      | none => match aopB M.P σ o.op with
        | some (ob, y) => (c = true → ob) ∧ K (σ.put o.dst (gdT c y))
        | none => ACallQ M.P σ o c (gdT c) K
theorem aqst_yl {M : Md} {P : Program} (hP : M.P = P) {N : Nat} {ops : Array Oper} (hc : chk N ops = true) {o : Oper} (ho : ∃ i : Nat, ops[i]? = some o) {K : St → Prop} {σ : St} (h : aqst M ops o σ K) : ∃ y, Yl P N ops o σ y ∧ K (σ.put o.dst y) := by
  obtain ⟨io, ho⟩ := ho
  have hdN : ∀ d, o.dst = some d → d < N := fun d q => (chk_spec hc ho q).1
  have val : ∀ y, (∀ σ' : St, (∀ t ∈ o.looksAt ops, σ'.t t = σ.t t) → σ'.b = σ.b → ∀ (x : Cx) (g : Gh) (a : Act) (w : World), x.P = P → x.N = N → Rel x g σ' a w →
      (Region.wanted o (yielded ops a.tmps) = true ∧ ∃ r w' g', (execOp a.eval o).run P w = .ok (.value r) w' ∧ Rel x g' σ' a w' ∧ RT g' w' y r) ∨ (Region.wanted o (yielded ops a.tmps) = false ∧ RT g w y undef)) → Yl P N ops o σ y := by
    intro y hy σ' h1 h2 x g a w hx hN hr
    rcases hy σ' h1 h2 x g a w hx hN hr with ⟨hw, r, w', g', r1, r2, r3⟩ | ⟨hw, r1⟩
    · refine .inl ⟨hw, fun K Q hK => ?_⟩
      unfold Oper.wp
      rw [r1, Oper.upon_value]
      exact hK _ _ _ (r2.put r3 o.dst (fun d q => by rw [hN]; exact hdN d q))
    · exact .inr ⟨hw, hr.put r1 o.dst (fun d q => by rw [hN]; exact hdN d q)⟩
  subst hP
  unfold aqst at h
  split at h
  · rename_i hgd
    have hw : ∀ a : Act, Region.wanted o (yielded ops a.tmps) = true := fun a => by simp [Region.wanted, hgd]
    split at h
    · rename_i ob y hop
      refine ⟨y, val y fun σ' h1 h2 x g a w hx hN hr => .inl ⟨hw a, ?_⟩, h.2⟩
      rw [← hx] at hop ⊢
      obtain ⟨r, r1, r2⟩ := aopP_ok ((aopP_congr o.op (looks_op h1) h2).trans hop) h.1 hr
      exact ⟨r, w, g, r1, hr, r2⟩
    · split at h
      · rename_i ob y hop
        refine ⟨y, val y fun σ' h1 h2 x g a w hx hN hr => .inl ⟨hw a, ?_⟩, h.2⟩
        rw [← hx] at hop ⊢
        exact aopB_ok ((aopB_congr h2 o.op (looks_op h1)).trans hop) h.1 hr
      · obtain ⟨r0, hF, hK⟩ := h
        have hF := hF rfl
        refine ⟨_, ?_, hK⟩
        intro σ' h1 h2 x g a w hx hN hr
        refine .inl ⟨hw a, fun K Q hKK => ?_⟩
        obtain ⟨d, ob, f, caps, l, o2, ars, bs, r1, e1, e2, e3, e4, e5, e6, e7, e8⟩ := hF
        rw [← hx] at e6 ⊢
        exact callQ_ok (r := r0) ⟨d, ob, f, caps, l, o2, ars, bs, r1, e1, (aFn_congr o.op (looks_op h1)).trans e2, e3, (aArgs_congr h2 [] l 0 (fun z hz => looks_op h1 z (aFn_ops e2 z hz))).trans e4, e5, e6, e7, e8⟩ hr (fun v g' w' c1 c2 => hKK _ _ _ (c1.put (c2) o.dst (fun d q => by rw [hN]; exact hdN d q)))
  · rename_i j want hgd
    split at h
    · exact h.elim
    · rename_i c hcg
      have hw : ∀ (σ' : St), (∀ t ∈ o.looksAt ops, σ'.t t = σ.t t) → ∀ (x : Cx) (g : Gh) (a : Act) (w : World), x.N = N → Rel x g σ' a w → Region.wanted o (yielded ops a.tmps) = c := by
        intro σ' h1 x g a w hN hr
        simp only [Region.wanted, hgd]
        subst hN
        exact grd_ok hr hc ((grd_congr h1 hgd).trans hcg)
      split at h
      · rename_i hl
        have hcf : c = false := by
          cases c with
          | true => simp at hl
          | false => rfl
        subst hcf
        exact ⟨_, val _ fun σ' h1 h2 x g a w hx hN hr => .inr ⟨hw σ' h1 x g a w hN hr, gdT_false g w .un⟩, h⟩
      · cases c with
        | true =>
          split at h
          · rename_i ob y hop
            refine ⟨_, val _ fun σ' h1 h2 x g a w hx hN hr => .inl ⟨hw σ' h1 x g a w hN hr, ?_⟩, h.2⟩
            rw [← hx] at hop ⊢
            obtain ⟨r, r1, r2⟩ := aopP_ok ((aopP_congr o.op (looks_op h1) h2).trans hop) (h.1 rfl) hr
            exact ⟨r, w, g, r1, hr, gdT_true r2⟩
          · split at h
            · rename_i ob y hop
              refine ⟨_, val _ fun σ' h1 h2 x g a w hx hN hr => .inl ⟨hw σ' h1 x g a w hN hr, ?_⟩, h.2⟩
              rw [← hx] at hop ⊢
              obtain ⟨r, w', g', r1, r2, r3⟩ := aopB_ok ((aopB_congr h2 o.op (looks_op h1)).trans hop) (h.1 rfl) hr
              exact ⟨r, w', g', r1, r2, gdT_true r3⟩
            · obtain ⟨r0, hF, hK⟩ := h
              have hF := hF rfl
              refine ⟨_, ?_, hK⟩
              intro σ' h1 h2 x g a w hx hN hr
              refine .inl ⟨hw σ' h1 x g a w hN hr, fun K Q hKK => ?_⟩
              obtain ⟨d, ob, f, caps, l, o2, ars, bs, r1, e1, e2, e3, e4, e5, e6, e7, e8⟩ := hF
              rw [← hx] at e6 ⊢
              exact callQ_ok (r := r0) ⟨d, ob, f, caps, l, o2, ars, bs, r1, e1, (aFn_congr o.op (looks_op h1)).trans e2, e3, (aArgs_congr h2 [] l 0 (fun z hz => looks_op h1 z (aFn_ops e2 z hz))).trans e4, e5, e6, e7, e8⟩ hr (fun v g' w' c1 c2 => hKK _ _ _ (c1.put (gdT_true c2) o.dst (fun d q => by rw [hN]; exact hdN d q)))
        | false =>
          have fal : ∀ y, Yl M.P N ops o σ (gdT false y) := fun y => val _ fun σ' h1 h2 x g a w hx hN hr => .inr ⟨hw σ' h1 x g a w hN hr, gdT_false g w y⟩
          split at h
          · exact ⟨_, fal _, h.2⟩
          · split at h
            · exact ⟨_, fal _, h.2⟩
            · obtain ⟨r0, -, hK⟩ := h
              exact ⟨_, fal _, hK⟩
structure Fx where
  i : Nat
  E : St → St
  th : D → D
section
variable {P : Program} {N : Nat} {ops : Array Oper} {m : Nat} {fx : List Nat} {K : St → Prop}
def aAnyE (P : Program) (N : Nat) (ops : Array Oper) (m : Nat) (K : St → Prop) : Nat → Array Bool → (List Fx → Prop) → St → Prop
  | 0, listed, Ls, σ => (∀ j, j < m → listed.getD j true = true) ∧ K σ
  | fuel + 1, listed, Ls, σ => Region.ready .any ops listed ≠ [] ∧ ∀ i ∈ Region.ready .any ops listed, ∃ o, ops[i]? = some o ∧ i < m ∧
      (((∀ es, Ls es → ∀ e ∈ es, e.i ≠ i) ∧ ∃ y, Yl P N ops o σ y ∧ aAnyE P N ops m K fuel (listed.setIfInBounds i true) Ls (σ.put o.dst y)) ∨
       (∃ (e : Fx) (Ls' : List Fx → Prop), e.i = i ∧ SoundP P N ops o e.E σ ∧ (∃ es, Ls' es) ∧ (∀ es, Ls' es → Ls (e :: es)) ∧ aAnyE P N ops m K fuel (listed.setIfInBounds i true) Ls' (e.E σ)))
def FxOk (ops : Array Oper) (m : Nat) (e : Fx) : Prop := ∀ (σ : St) (k : Nat) (ok : Oper) (z : D), ops[k]? = some ok → k < m → k ≠ e.i → e.E (σ.put ok.dst z) = (e.E σ).put ok.dst (e.th z)
def FlC (P : Program) (N : Nat) (ops : Array Oper) (i : Nat) (y : D) (o : Oper) : List Fx → St → Prop
  | [], _ => True
  | e :: es, σ => ancB ops e.i ops.size i = true ∨ (e.th y = y ∧ Yl P N ops o (e.E σ) y ∧ FlC P N ops i y o es (e.E σ))
theorem FlC.put {i : Nat} {y : D} {o : Oper} {j : Nat} {oj : Oper} (hj : ops[j]? = some oj) (hjm : j < m) (ha : ∀ d, oj.dst = some d → d ∉ o.looksAt ops) :
    ∀ (es : List Fx) (σ : St) (z : D), (∀ e ∈ es, FxOk ops m e ∧ e.i ≠ j) → FlC P N ops i y o es σ → FlC P N ops i y o es (σ.put oj.dst z)
  | [], _, _, _, _ => trivial
  | e :: es, σ, z, he, h => by
    rcases h with h | ⟨h1, h2, h3⟩
    · exact .inl h
    · obtain ⟨q1, q2⟩ := he e (by simp)
      refine .inr ⟨h1, ?_, ?_⟩
      · rw [q1 σ j oj z hj hjm (Ne.symm q2)]; exact h2.put _ ha
      · rw [q1 σ j oj z hj hjm (Ne.symm q2)]; exact FlC.put hj hjm ha es _ _ (fun e' h' => he e' (List.mem_cons_of_mem _ h')) h3
theorem FlC.unput {i : Nat} {y : D} {o : Oper} {j : Nat} {oj : Oper} (hj : ops[j]? = some oj) (hjm : j < m) (ha : ∀ d, oj.dst = some d → d ∉ o.looksAt ops) :
    ∀ (es : List Fx) (σ : St) (z : D), (∀ e ∈ es, FxOk ops m e ∧ e.i ≠ j) → FlC P N ops i y o es (σ.put oj.dst z) → FlC P N ops i y o es σ
  | [], _, _, _, _ => trivial
  | e :: es, σ, z, he, h => by
    rcases h with h | ⟨h1, h2, h3⟩
    · exact .inl h
    · obtain ⟨q1, q2⟩ := he e (by simp)
      rw [q1 σ j oj z hj hjm (Ne.symm q2)] at h2 h3
      exact .inr ⟨h1, h2.unput ha, FlC.unput hj hjm ha es _ _ (fun e' h' => he e' (List.mem_cons_of_mem _ h')) h3⟩
theorem aAnyE_first {i : Nat} {oi : Oper} {y : D} (hi : ops[i]? = some oi) (him : i < m) (htail : ∀ j, m ≤ j → j < ops.size → ancB ops j ops.size i = true) :
    ∀ (fuel : Nat) (listed : Array Bool) (Ls : List Fx → Prop) (σ : St), (∀ es, Ls es → ∀ e ∈ es, FxOk ops m e ∧ e.i ≠ i) → listed.size = ops.size → Closed ops listed →
      (∀ j oj, ops[j]? = some oj → j ≠ i → j < m → listed.getD j true = false → bnd ops j i = false → oi.apart ops oj = true) →
      i ∈ Region.ready .any ops listed → Yl P N ops oi σ y → (∀ es, Ls es → FlC P N ops i y oi es σ) →
      aAnyE P N ops m K fuel (listed.setIfInBounds i true) Ls (σ.put oi.dst y) → aAnyE P N ops m K (fuel + 1) listed Ls σ := by
  have hbn : ∀ (listed : Array Bool) (j : Nat), i ∈ Region.ready .any ops listed → j ∈ Region.ready .any ops listed → bnd ops j i = false := by
    intro listed j hr hj
    cases hb : bnd ops j i with
    | false => rfl
    | true =>
      obtain ⟨-, oj, hoj, hall⟩ := mem_ready.1 hj
      obtain ⟨o, e, ho, he, hb, hon⟩ := bnd_spec hb
      rw [hoj] at ho; injection ho with ho; subst ho
      have h1 := hall e he hb
      have h0 := (mem_ready.1 hr).1
      rw [hon] at h1
      rcases Nat.lt_or_ge i listed.size with h' | h'
      · simp [h'] at h0 h1; rw [h0] at h1; cases h1
      · simp [Array.getElem?_eq_none h'] at h1
  have hjm : ∀ (listed : Array Bool) (j : Nat), Closed ops listed → listed.size = ops.size → i ∈ Region.ready .any ops listed → j ∈ Region.ready .any ops listed → j < m := by
    intro listed j hcl hsz hir hj
    rcases Nat.lt_or_ge j m with q | q
    · exact q
    · obtain ⟨-, oj, hoj, -⟩ := mem_ready.1 hj
      have h1 := anc_listed hcl hj _ _ (htail j q (Array.getElem?_eq_some_iff.1 hoj).1)
      have h0 := (mem_ready.1 hir).1
      have hilt : i < listed.size := by rw [hsz]; exact (Array.getElem?_eq_some_iff.1 hi).1
      simp [hilt] at h0 h1; rw [h0] at h1; cases h1
  intro fuel
  induction fuel with
  | zero =>
    intro listed Ls σ hes hsz hcl hfr hr hy hfl H
    refine ⟨fun h => (by rw [h] at hr; cases hr), fun j hj => ?_⟩
    have hlt := hjm listed j hcl hsz hr hj
    by_cases hji : j = i
    · subst hji; exact ⟨oi, hi, hlt, .inl ⟨fun es h1 e he => (hes es h1 e he).2, y, hy, H⟩⟩
    · have h1 := H.1 j hlt
      rw [getD_set_ne true (Ne.symm hji)] at h1
      rw [(mem_ready.1 hj).1] at h1
      cases h1
  | succ fuel ih =>
    intro listed Ls σ hes hsz hcl hfr hr hy hfl H
    refine ⟨fun h => (by rw [h] at hr; cases hr), fun j hj => ?_⟩
    have hlt := hjm listed j hcl hsz hr hj
    by_cases hji : j = i
    · subst hji; exact ⟨oi, hi, hlt, .inl ⟨fun es h1 e he => (hes es h1 e he).2, y, hy, H⟩⟩
    · obtain ⟨hjun, oj', hoj', hall⟩ := mem_ready.1 hj
      obtain ⟨a1, a2, a3⟩ := Oper.apart_spec (hfr j oj' hoj' hji hlt hjun (hbn listed j hr hj))
      obtain ⟨oj, hoj, -, hk⟩ := H.2 j (ready_mono hj hji)
      rw [hoj] at hoj'; injection hoj' with hoj'; subst hoj'
      have hsz' : (listed.setIfInBounds j true).size = ops.size := by simpa using hsz
      have hfr' : ∀ k ok, ops[k]? = some ok → k ≠ i → k < m → (listed.setIfInBounds j true).getD k true = false → bnd ops k i = false → oi.apart ops ok = true := fun k ok hk hki hkm hun hb => by
        refine hfr k ok hk hki hkm ?_ hb
        by_cases hjk : j = k
        · subst hjk; exact hjun
        · rw [getD_set_ne true hjk] at hun; exact hun
      rcases hk with ⟨hne, z, hz, H1⟩ | ⟨e, Ls', he, hS, hne, hsub, H1⟩
      · refine ⟨oj, hoj, hlt, .inl ⟨hne, z, hz.unput a1, ?_⟩⟩
        refine ih (listed.setIfInBounds j true) Ls _ hes hsz' (closed_set hcl hj) hfr' (ready_mono hr (Ne.symm hji)) (hy.put z a3) (fun es hes' => FlC.put hoj hlt a3 es σ z (fun e he => ⟨(hes es hes' e he).1, hne es hes' e he⟩) (hfl es hes')) ?_
        rw [Array.setIfInBounds_comm _ _ hji, ← St.put_comm σ y z a2]
        exact H1
      · refine ⟨oj, hoj, hlt, .inr ⟨e, Ls', he, hS.unput a1, hne, hsub, ?_⟩⟩
        have hanc : ancB ops e.i ops.size i ≠ true := fun q => by
          rw [he] at q
          have h1 := anc_listed hcl hj _ _ q
          have h0 := (mem_ready.1 hr).1
          have hilt : i < listed.size := by rw [hsz]; exact (Array.getElem?_eq_some_iff.1 hi).1
          simp [hilt] at h0 h1; rw [h0] at h1; cases h1
        obtain ⟨es0, hes0⟩ := hne
        have q := (hfl _ (hsub _ hes0)).resolve_left hanc
        refine ih (listed.setIfInBounds j true) Ls' _ (fun es h' e' he' => hes _ (hsub _ h') e' (List.mem_cons_of_mem _ he')) hsz' (closed_set hcl hj) hfr' (ready_mono hr (Ne.symm hji)) q.2.1 (fun es h' => ((hfl _ (hsub _ h')).resolve_left hanc).2.2) ?_
        rw [Array.setIfInBounds_comm _ _ hji]
        have he0 := hes _ (hsub _ hes0) e (by simp)
        have := he0.1 σ i oi y hi him (Ne.symm he0.2)
        rw [q.1] at this
        rw [← this]
        exact H1
inductive Tr where
  | nil
  | no
  | fl (i : Nat) (t : Tr)
  | fx (i : Nat) (t r : Tr)
def Tr.len : Tr → Nat
  | .nil => 0
  | .no => 0
  | .fl _ t => t.len + 1
  | .fx _ t _ => t.len + 1
def Tr.alts : Tr → List Nat
  | .fx i _ r => i :: r.alts
  | _ => []
def Tr.isNo : Tr → Bool
  | .no => true
  | _ => false
def walkE (P : Program) (N : Nat) (ops : Array Oper) (τ : St) : Tr → (List Fx → Prop) → St → Prop
  | .nil, _, σ => σ = τ
  | .no, _, _ => True
  | .fl i t, Ls, σ => ∃ o, ops[i]? = some o ∧ ∃ y, Yl P N ops o σ y ∧ (∀ es, Ls es → FlC P N ops i y o es σ) ∧ walkE P N ops τ t Ls (σ.put o.dst y)
  | .fx i t r, Ls, σ => (∃ o, ops[i]? = some o ∧ ∃ (e : Fx) (Ls' : List Fx → Prop), e.i = i ∧ SoundP P N ops o e.E σ ∧ (∃ es, Ls' es) ∧ (∀ es, Ls' es → Ls (e :: es)) ∧ walkE P N ops τ t Ls' (e.E σ)) ∧
      ∃ Ls2 : List Fx → Prop, (∀ es, Ls2 es → Ls es) ∧ walkE P N ops τ r Ls2 σ
def isStB : Op → Bool
  | .store _ _ _ => true
  | _ => false
def ordB (ops : Array Oper) (m : Nat) (fx : List Nat) (fl : Nat → Nat → Bool) : Tr → List Nat → List Nat → Array Bool → Bool
  | .nil, al, _, listed => al.isEmpty && (List.range m).all fun j => listed.getD j true
  | .no, al, _, _ => !al.isEmpty
  | .fl i t, al, dn, listed => al.isEmpty && decide (i < m) && !dn.contains i && (Region.ready .any ops listed).contains i && !fx.contains i &&
      (match ops[i]? with
      | none => false
      | some o => (match o.dst with
          | none => false
          | some d => !(o.looksAt ops).contains d && dn.all fun j => match ops[j]? with
            | some oj => !(oj.looksAt ops).contains d
            | none => false) &&
        ((List.range m).all fun j => listed.getD j true || j == i || bnd ops j i || match ops[j]? with
            | some oj => o.apart ops oj
            | none => true)) &&
      ordB ops m fx fl t [] (i :: dn) (listed.setIfInBounds i true)
  | .fx i t r, al, dn, listed => decide (i < m) && !dn.contains i && (Region.ready .any ops listed).contains i && fx.contains i &&
      (match ops[i]? with
      | none => false
      | some o => (match o.dst with
          | none => isStB o.op
          | some d => !(o.looksAt ops).contains d && dn.all fun j => match ops[j]? with
            | some oj => !(oj.looksAt ops).contains d
            | none => false) &&
        (o.guard.isNone && (Region.ready .any ops listed).all (fun j => j == i || al.contains j || r.alts.contains j) && dn.all (fun j => match ops[j]? with
            | some oj => fx.contains j || ancB ops i ops.size j || fl i j
            | none => false))) &&
      (r.isNo || r.len == t.len + 1) && ordB ops m fx fl t [] (i :: dn) (listed.setIfInBounds i true) && ordB ops m fx fl r (i :: al) dn listed
theorem aAnyE_walk {fl : Nat → Nat → Bool} {τ : St} (htail : ∀ j, m ≤ j → j < ops.size → ∀ i, i < m → ancB ops j ops.size i = true) :
    ∀ (tr : Tr) (al dn : List Nat) (listed : Array Bool) (Ls : List Fx → Prop) (σ : St), ordB ops m fx fl tr al dn listed = true → (∀ es, Ls es → ∀ e ∈ es, FxOk ops m e ∧ fx.contains e.i = true) → listed.size = ops.size → Closed ops listed →
      walkE P N ops τ tr Ls σ → (al = [] → aAnyE P N ops m (fun σ' => σ' = τ) tr.len listed Ls σ) ∧
        ∀ j ∈ tr.alts, ∃ o, ops[j]? = some o ∧ j < m ∧ ∃ (e : Fx) (Ls' : List Fx → Prop), e.i = j ∧ SoundP P N ops o e.E σ ∧ (∃ es, Ls' es) ∧ (∀ es, Ls' es → Ls (e :: es)) ∧ aAnyE P N ops m (fun σ' => σ' = τ) (tr.len - 1) (listed.setIfInBounds j true) Ls' (e.E σ)
  | .nil, al, dn, listed, Ls, σ, hB, hes, hsz, hcl, h => by
    refine ⟨fun _ => ⟨fun j hj => ?_, h⟩, fun j hj => by cases hj⟩
    simp only [ordB, Bool.and_eq_true] at hB
    exact List.all_eq_true.1 hB.2 j (List.mem_range.2 hj)
  | .no, al, dn, listed, Ls, σ, hB, hes, hsz, hcl, h => by
    refine ⟨fun q => ?_, fun j hj => by cases hj⟩
    subst q
    cases hB
  | .fl i t, al, dn, listed, Ls, σ, hB, hes, hsz, hcl, h => by
    refine ⟨fun _ => ?_, fun j hj => by cases hj⟩
    obtain ⟨o, ho, y, hy, hf, hK⟩ := h
    simp only [ordB, ho, Bool.and_eq_true, decide_eq_true_eq, Bool.not_eq_true'] at hB
    obtain ⟨⟨⟨⟨⟨⟨-, him⟩, -⟩, hr⟩, hp⟩, -, hB1⟩, hB2⟩ := hB
    have hr : i ∈ Region.ready .any ops listed := by simpa using hr
    have hne : ∀ es, Ls es → ∀ e ∈ es, e.i ≠ i := fun es h1 e he hei => by
      have := (hes es h1 e he).2
      rw [hei, hp] at this; cases this
    refine aAnyE_first ho him (fun j h1 h2 => htail j h1 h2 i him) t.len listed Ls σ (fun es h1 e he => ⟨(hes es h1 e he).1, hne es h1 e he⟩) hsz hcl (fun j oj hoj hji hjm hun hb => ?_) hr hy hf ?_
    · have := List.all_eq_true.1 hB1 j (List.mem_range.2 hjm)
      simp only [hun, hb, hoj, Bool.or_eq_true, Bool.false_or, beq_iff_eq, Bool.or_false] at this
      rcases this with q | q
      · exact absurd q hji
      · exact q
    · exact (aAnyE_walk htail t [] _ _ Ls _ hB2 hes (by simpa using hsz) (closed_set hcl hr) hK).1 rfl
  | .fx i t r, al, dn, listed, Ls, σ, hB, hes, hsz, hcl, h => by
    obtain ⟨⟨o, ho, e, Ls', he, hS, hne, hsub, hK⟩, Ls2, hsub2, hK2⟩ := h
    simp only [ordB, ho, Bool.and_eq_true, decide_eq_true_eq, Bool.not_eq_true'] at hB
    obtain ⟨⟨⟨⟨⟨⟨⟨him, -⟩, hr⟩, -⟩, -, ⟨-, hall⟩, -⟩, hlen⟩, hB2⟩, hB3⟩ := hB
    have hr : i ∈ Region.ready .any ops listed := by simpa using hr
    have IH1 := (aAnyE_walk htail t [] _ _ Ls' _ hB2 (fun es h1 e' he' => hes _ (hsub _ h1) e' (List.mem_cons_of_mem _ he')) (by simpa using hsz) (closed_set hcl hr) hK).1 rfl
    have IH2 := (aAnyE_walk htail r (i :: al) dn listed Ls2 σ hB3 (fun es h1 => hes es (hsub2 es h1)) hsz hcl hK2).2
    have key : ∀ j ∈ (Tr.fx i t r).alts, ∃ o, ops[j]? = some o ∧ j < m ∧ ∃ (e : Fx) (Ls' : List Fx → Prop), e.i = j ∧ SoundP P N ops o e.E σ ∧ (∃ es, Ls' es) ∧ (∀ es, Ls' es → Ls (e :: es)) ∧ aAnyE P N ops m (fun σ' => σ' = τ) t.len (listed.setIfInBounds j true) Ls' (e.E σ) := by
      intro j hj
      simp only [Tr.alts] at hj
      rcases List.mem_cons.1 hj with rfl | hj
      · exact ⟨o, ho, him, e, Ls', he, hS, hne, hsub, IH1⟩
      · obtain ⟨o', q1, q2, e', Ls3, q3, q4, q5, q6, q7⟩ := IH2 j hj
        refine ⟨o', q1, q2, e', Ls3, q3, q4, q5, fun es h1 => hsub2 _ (q6 es h1), ?_⟩
        have : r.len - 1 = t.len := by
          rcases Bool.or_eq_true_iff.1 hlen with q | q
          · cases r <;> first | (cases hj; done) | (cases q; done)
          · have := beq_iff_eq.1 q; omega
        rw [this] at q7
        exact q7
    refine ⟨fun q => ?_, fun j hj => by simpa [Tr.len] using key j hj⟩
    subst q
    refine ⟨fun q => (by rw [q] at hr; cases hr), fun j hj => ?_⟩
    have hja : j ∈ (Tr.fx i t r).alts := by
      have := List.all_eq_true.1 hall j hj
      simp only [List.contains_nil, Bool.or_false, Bool.or_eq_true, beq_iff_eq, List.contains_iff_mem] at this
      simp only [Tr.alts]
      rcases this with q | q
      · simp [q]
      · exact List.mem_cons_of_mem _ q
    obtain ⟨o', q1, q2, e', Ls3, q3, q4, q5, q6, q7⟩ := key j hja
    exact ⟨o', q1, q2, .inr ⟨e', Ls3, q3, q4, q5, q6, q7⟩⟩
theorem wpAny_of_aAnyE {x : Cx} (hx : x.P = P) (hN : x.N = N) {Q : Exit → Act → World → Prop} {n : Nat} (hm : m ≤ ops.size)
    (hQ : ∀ σ' g' a' w' (listed : Array Bool), listed.size = ops.size → (∀ j, j < m → listed.getD j true = true) → (∀ j, m ≤ j → j < ops.size → listed.getD j true = false) → Rel x g' σ' a' w' → K σ' → wpAny P .any ops Q n listed a' w') :
    ∀ (fuel : Nat) (listed : Array Bool) (Ls : List Fx → Prop) (σ : St) (g : Gh) (a : Act) (w : World), listed.size = ops.size → (∀ j, m ≤ j → j < ops.size → listed.getD j true = false) → Rel x g σ a w → aAnyE P N ops m K fuel listed Ls σ → wpAny P .any ops Q (n + fuel) listed a w
  | 0, listed, Ls, σ, g, a, w, hsz, hge, hr, h => hQ σ g a w listed hsz h.1 hge hr h.2
  | fuel + 1, listed, Ls, σ, g, a, w, hsz, hge, hr, h => by
    refine ⟨fun q => absurd q h.1, fun i hi => ?_⟩
    obtain ⟨o, ho, him, hk⟩ := h.2 i hi
    have hge' : ∀ j, m ≤ j → j < ops.size → (listed.setIfInBounds i true).getD j true = false := fun j hj hjs => by rw [getD_set_ne true (by omega)]; exact hge j hj hjs
    have ih : ∀ Ls' σ' g' a' w', Rel x g' σ' a' w' → aAnyE P N ops m K fuel (listed.setIfInBounds i true) Ls' σ' → wpAny P .any ops Q (n + fuel) (listed.setIfInBounds i true) a' w' := fun Ls' σ' g' a' w' hr' h' => wpAny_of_aAnyE hx hN hm hQ fuel _ Ls' σ' g' a' w' (by simpa using hsz) hge' hr' h'
    unfold wpOp
    simp only [ho]
    rcases hk with ⟨-, y, hy, hK⟩ | ⟨e, Ls', -, hS, -, -, hK⟩
    · rcases hy σ (fun _ _ => rfl) rfl x g a w hx hN hr with ⟨hw, h1⟩ | ⟨hw, h1⟩
      · rw [if_pos hw]
        exact .inl (h1 _ _ fun g' a' w' hr' => ih _ _ g' a' w' hr' hK)
      · rw [if_neg (by rw [hw]; simp)]
        exact ih _ _ g _ w h1 hK
    · obtain ⟨hw, h1⟩ := hS σ (fun _ _ => rfl) rfl x g a w hx hN hr
      rw [if_pos hw]
      exact .inl (h1 _ _ fun g' a' w' hr' => ih _ _ g' a' w' hr' hK)
end
def aFlQ (M : Md) (ops : Array Oper) (σ τ : St) : List Oper → Prop
  | [] => True
  | o :: r => (match o.dst with
    | some d => τ.t d = σ.t d ∧ aqst M ops o τ (fun τ' => τ'.t d = σ.t d)
    | none => False) ∧ aFlQ M ops σ τ r
def CallE (P : Program) (f : FuncId) (ars : List D) (bs : List Nat) (K : D → List D → Prop) : Prop := ∃ r0 o0, FCon P f ars (fun r o => r = r0 ∧ o = o0) ∧ (bs = [] ∨ (Pure r0 ∧ ∀ o ∈ o0, Pure o)) ∧ K r0 o0
def ACallE (M : Md) (σ : St) (o : Oper) (K : St → Prop) : Prop := match aFn σ o.op with
  | some (_, f0, _, ops0) => match prepA (M.md f0) 0 ops0 σ with
    | some (o1, σ1) => match aFn σ1 o.op with
      | some (o0, f, caps, ops) => match aArgs σ1 (M.md f0) 0 ops with
        | some (o2, ars, gs, bs) => o0 ∧ o1 ∧ o2 ∧ nodB (gvN gs) = true ∧ nodB (gvK gs) = true ∧ bs.all (pOut (gvN gs)) = true ∧ CallE M.P f (ars ++ caps) bs (aft σ1 o.dst gs K)
        | none => False
      | none => False
    | none => False
  | none => False
def aEff (M : Md) (o : Oper) (σ : St) (K : St → Prop) : Prop := match aop2 M.P σ o.dst o.op with
  | some (ob, y, σ') => ob ∧ K (σ'.put o.dst y)
  | none => ACallE M σ o K
def aPivN (M : Md) (ops : Array Oper) (K : St → Prop) (fl : List Oper) (p : Oper) (σ : St) : Prop := aEff M p σ fun τ => aFlQ M ops σ τ fl ∧ K τ
def Meet (σ τ : St) : Prop := σ = τ
def altK (A : (St → Prop) → Prop) (K : St → Prop) (τ : St) : Prop := A (fun σ => Meet σ τ) ∧ K τ
def aqsN (M : Md) (ops : Array Oper) (fl : Nat → Nat → Bool) : (St → Prop) → Tr → List (Nat × Oper) → St → Prop
  | K, .nil, _, σ => K σ
  | _, .no, _, _ => True
  | K, .fl i t, acc, σ => match ops.toList[i]? with
    | none => False
    | some o => aqst M ops o σ (aqsN M ops fl K t ((i, o) :: acc))
  | K, .fx i t r, acc, σ => match ops.toList[i]? with
    | none => False
    | some o => aPivN M ops (aqsN M ops fl (altK (fun K' => aqsN M ops fl K' r acc σ) K) t (acc.filter fun p => fl i p.1)) ((acc.filter fun p => fl i p.1).map Prod.snd) o σ
section
variable {M : Md} {ops : Array Oper} {fl : Nat → Nat → Bool} {K : St → Prop} {acc : List (Nat × Oper)} {σ : St} {i j : Nat} {t r u : Tr}
theorem aqsN_nil : aqsN M ops fl K .nil acc σ = K σ := rfl
theorem aqsN_no : aqsN M ops fl K .no acc σ = True := rfl
theorem aqsN_fl : aqsN M ops fl K (.fl i t) acc σ = match ops.toList[i]? with
    | none => False
    | some o => aqst M ops o σ (aqsN M ops fl K t ((i, o) :: acc)) := rfl
theorem aqsN_fx : aqsN M ops fl K (.fx i t (.fx j r u)) acc σ = match ops.toList[i]? with
    | none => False
    | some o => aPivN M ops (aqsN M ops fl (altK (fun K' => aqsN M ops fl K' (.fx j r u) acc σ) K) t (acc.filter fun p => fl i p.1)) ((acc.filter fun p => fl i p.1).map Prod.snd) o σ := rfl
theorem aqsN_fx1 : aqsN M ops fl K (.fx i t .no) acc σ = match ops.toList[i]? with
    | none => False
    | some o => aPivN M ops (aqsN M ops fl K t (acc.filter fun p => fl i p.1)) ((acc.filter fun p => fl i p.1).map Prod.snd) o σ := by
  have : altK (fun K' => aqsN M ops fl K' .no acc σ) K = K := funext fun τ => propext ⟨fun h => h.2, fun h => ⟨trivial, h⟩⟩
  conv => lhs; unfold aqsN
  rw [this]
theorem altK_ap {A : (St → Prop) → Prop} {τ : St} : altK A K τ = (A (fun σ => Meet σ τ) ∧ K τ) := rfl
end
def lin (fx : List Nat) : List Nat → Tr
  | [] => .nil
  | i :: π => match fx.contains i with
    | true => .fx i (lin fx π) .no
    | false => .fl i (lin fx π)
theorem lin_nil {fx : List Nat} : lin fx [] = .nil := rfl
theorem lin_cons {fx : List Nat} {i : Nat} {π : List Nat} : lin fx (i :: π) = match fx.contains i with
    | true => .fx i (lin fx π) .no
    | false => .fl i (lin fx π) := rfl
theorem aop2_fx {P : Program} {σ σ' : St} {d : Tmp} {op : Op} {ob : Prop} {y : D} (h : aop2 P σ (some d) op = some (ob, y, σ')) :
    ∃ (θ : D → D) (B : Nat → Option Ob), σ' = ⟨fun i => θ (σ.t i), B⟩ ∧ ∀ τ : St, τ.b = σ.b → (∀ z ∈ op.operands, ev τ z = ev σ z) → aop2 P τ (some d) op = some (ob, y, ⟨fun i => θ (τ.t i), B⟩) := by
  unfold aop2 at h
  split at h
  · rename_i t
    split at h
    · rename_i ag n z hd hk
      injection hd with hd; subst hd
      injection h with h; injection h with e1 e2; injection e2 with e2 e3
      subst e1 e2 e3
      refine ⟨scT (pOut [d]), ((σ.sc (pOut [d]) (pOut [d])).setB d (.box _)).b, rfl, fun τ hτ _ => ?_⟩
      unfold aop2
      simp only [hk, St.setB, St.sc, hτ]
    · cases h
  · rename_i t z
    split at h
    · rename_i row hd hc
      injection hd with hd; subst hd
      injection h with h; injection h with e1 e2; injection e2 with e2 e3
      subst e1 e2 e3
      refine ⟨scT (pOut [d]), ((σ.sc (pOut [d]) (pOut [d])).setB d (.box _)).b, rfl, fun τ hτ hv => ?_⟩
      have e := hv z (by simp [Op.operands])
      unfold aop2
      simp only [e, hc, St.setB, St.sc, hτ]
    · cases h
  · split at h
    · rename_i hd _ _; cases hd
    · cases h
  · rename_i t parts
    split at h
    · rename_i ob' y' h'
      injection h with h; injection h with e1 e2; injection e2 with e2 e3
      subst e1 e2 e3
      refine ⟨fun y => y, σ.b, rfl, fun τ hτ hv => ?_⟩
      have e : aBuild P τ t parts = aBuild P σ t parts := by
        simp only [aBuild]
        cases tk P t <;> try rfl
        simp only
        rw [aFill_congr _ _ (fun z hz => hv z.2 (by simp [Op.operands]; exact ⟨z.1, by simpa using hz⟩))]
      unfold aop2
      simp only [e, h', ← hτ]
    · cases h
  · rename_i t l c
    split at h
    · rename_i e k by_ z kl n kc m hd hk hl hc
      injection hd with hd; subst hd
      injection h with h; injection h with e1 e2; injection e2 with e2 e3
      subst e1 e2 e3
      refine ⟨scT (pOut [d]), ((σ.sc (pOut [d]) (pOut [d])).setB d (.arr e k _)).b, rfl, fun τ hτ hv => ?_⟩
      have e1 := hv l (by simp [Op.operands])
      have e2 := hv c (by simp [Op.operands])
      unfold aop2
      simp only [e1, e2, hk, hl, hc, St.setB, St.sc, hτ]
    · cases h
  · rename_i t len parts
    split at h
    · rename_i e k by_ z hd hk
      injection hd with hd; subst hd
      split at h
      · rename_i ob' rows raw h'
        injection h with h; injection h with e1 e2; injection e2 with e2 e3
        subst e1 e2 e3
        refine ⟨scT (pOut (d :: idsC raw)), ((σ.sc (pOut (d :: idsC raw)) (pOut (d :: idsC raw))).setB d (.arr e k rows)).b, rfl, fun τ hτ hv => ?_⟩
        have e1 := aRows_congr hτ (k := k) parts.toList 0 (fun z hz => hv z.2 (by simp [Op.operands]; exact ⟨z.1, by simpa using hz⟩))
        unfold aop2
        simp only [e1, hk, h', St.setB, St.sc, hτ]
      · cases h
    · cases h
  · rename_i args ts
    split at h
    · rename_i s z t t' hd ha ht
      injection hd with hd; subst hd
      have hops : ∀ τ : St, (∀ y ∈ (Op.call ⟨.builtin .append, args, ts⟩).operands, ev τ y = ev σ y) → ev τ s = ev σ s ∧ ev τ z = ev σ z := fun τ hv =>
        ⟨hv s (by simp [Op.operands, Call.operands, ← Array.mem_toList_iff, ha]), hv z (by simp [Op.operands, Call.operands, ← Array.mem_toList_iff, ha])⟩
      split at h
      · rename_i e k by_ zz hk
        split at h
        · rename_i ob' rows' ids hx
          split at h
          · rename_i id k' n hs
            split at h
            · rename_i e' k'' rows hrow
              injection h with h; injection h with e1 e2; injection e2 with e2 e3
              subst e1 e2 e3
              refine ⟨scT (pOut (nmA d id :: id :: ids)), ((σ.sc (pOut (nmA d id :: id :: ids)) (pOut (nmA d id :: id :: ids))).setB (nmA d id) (.arr e k _)).b, rfl, fun τ hτ hv => ?_⟩
              obtain ⟨e1, e2⟩ := hops τ hv
              unfold aop2
              simp only [ha, ht, hk, e1, e2, srcK_b hτ, hx, hs, hτ, hrow, St.setB, St.sc]
            · cases h
          · rename_i hs
            injection h with h; injection h with e1 e2; injection e2 with e2 e3
            subst e1 e2 e3
            refine ⟨scT (pOut (d :: ids)), ((σ.sc (pOut (d :: ids)) (pOut (d :: ids))).setB d (.arr e k _)).b, rfl, fun τ hτ hv => ?_⟩
            obtain ⟨e1, e2⟩ := hops τ hv
            unfold aop2
            simp only [ha, ht, hk, e1, e2, srcK_b hτ, hx, hs, hτ, St.setB, St.sc]
          · cases h
        · cases h
      · cases h
    · cases h
  · cases h
theorem aop2_fxS {P : Program} {σ σ' : St} {op : Op} (hs : isStB op = true) {ob : Prop} {y : D} (h : aop2 P σ none op = some (ob, y, σ')) :
    ∃ (θ : D → D) (B : Nat → Option Ob), σ' = ⟨fun i => θ (σ.t i), B⟩ ∧ ∀ τ : St, τ.b = σ.b → (∀ z ∈ op.operands, ev τ z = ev σ z) → aop2 P τ none op = some (ob, y, ⟨fun i => θ (τ.t i), B⟩) := by
  unfold isStB at hs
  split at hs
  · rename_i t p v
    unfold aop2 at h
    simp only at h
    split at h
    · rename_i xs ag n zz hd0 hc hk
      split at h
      · rename_i id off hp
        split at h
        · rename_i row hrow
          injection h with h; injection h with e1 e2; injection e2 with e2 e3
          subst e1 e2 e3
          refine ⟨fun y => y, (σ.setB id (.box (lay row off xs))).b, rfl, fun τ hτ hv => ?_⟩
          have e1 := hv p (by simp [Op.operands])
          have e2 := hv v (by simp [Op.operands])
          unfold aop2
          simp only [e1, e2, hc, hk, hp, hrow, hτ, St.setB]
        · cases h
      · rename_i id k i off hp
        split at h
        · rename_i e k' rows ob' ds hrow hfd
          injection h with h; injection h with e1 e2; injection e2 with e2 e3
          subst e1 e2 e3
          refine ⟨scT (pOut (idsC xs)), ((σ.sc (pOut (idsC xs)) (pOut (idsC xs))).setB id (.arr e k (rows.set i (lay (rows.getD i []) off ds)))).b, rfl, fun τ hτ hv => ?_⟩
          have e1 := hv p (by simp [Op.operands])
          have e2 := hv v (by simp [Op.operands])
          unfold aop2
          simp only [e1, e2, hc, hk, hp, hrow, fdL_b hτ, hfd, hτ, St.setB, St.sc]
        · rename_i e k' rows i0 c0 r _ hrow hfd
          split at h
          · rename_i dd
            injection h with h; injection h with e1 e2; injection e2 with e2 e3
            subst e1 e2 e3
            refine ⟨fun y => y, (σ.setB id (.hol e k' rows i0 c0 dd)).b, rfl, fun τ hτ hv => ?_⟩
            have e1 := hv p (by simp [Op.operands])
            have e2 := hv v (by simp [Op.operands])
            unfold aop2
            simp only [e1, e2, hc, hk, hp, hrow, fdL_b hτ, hfd, hτ, St.setB]
          · cases h
        · cases h
      · cases h
    · cases h
  · cases hs
theorem aEff_fx {M : Md} {o : Oper} (hdd : (∃ d, o.dst = some d) ∨ (o.dst = none ∧ isStB o.op = true)) {σ : St} {K : St → Prop} (h : aEff M o σ K) : ∃ (θ : D → D) (B : Nat → Option Ob) (Y : D), K (Ef θ B o.dst Y σ) ∧
    ∀ τ : St, τ.b = σ.b → (∀ z ∈ o.op.operands, ev τ z = ev σ z) → ∀ {x : Cx} {g : Gh} {a : Act} {w : World}, x.P = M.P → (∀ d, o.dst = some d → d < x.N ∧ d < 999) → Rel x g τ a w → ∀ {K' : Act → World → Prop} {Q : Exit → Act → World → Prop}, (∀ g' a' w', Rel x g' (Ef θ B o.dst Y τ) a' w' → K' a' w') → o.wp x.P a w K' Q := by
  unfold aEff at h
  split at h
  · rename_i ob y σ' hop
    obtain ⟨θ, B, hσ, hc⟩ : ∃ (θ : D → D) (B : Nat → Option Ob), σ' = ⟨fun i => θ (σ.t i), B⟩ ∧ ∀ τ : St, τ.b = σ.b → (∀ z ∈ o.op.operands, ev τ z = ev σ z) → aop2 M.P τ o.dst o.op = some (ob, y, ⟨fun i => θ (τ.t i), B⟩) := by
      rcases hdd with ⟨d, hdd⟩ | ⟨hdd, hst⟩
      · rw [hdd] at hop ⊢; exact aop2_fx hop
      · rw [hdd] at hop ⊢; exact aop2_fxS hst hop
    subst hσ
    refine ⟨θ, B, y, h.2, fun τ hτ hv x g a w hx hd hr K' Q hK => ?_⟩
    have hop' := hc τ hτ hv
    rw [← hx] at hop'
    obtain ⟨w', g', r0, r1⟩ := aop2_ok hop' h.1 (fun d q => lt_isP (hd d q).2) hr
    unfold Oper.wp
    rcases r1 with ⟨r, r1, r2⟩ | ⟨r1, r2⟩
    · rw [r1, Oper.upon_value]
      exact hK _ _ _ (r0.put r2 o.dst (fun d q => (hd d q).1))
    · rw [r1, Oper.upon_skip]
      exact hK _ _ _ (r0.put (y := y) (v := undef) (by rw [r2]; trivial) o.dst (fun d q => (hd d q).1))
  · unfold ACallE at h
    split at h
    · rename_i q0 f0 caps0 ops0 hcal0
      obtain ⟨d, hdd⟩ : ∃ d, o.dst = some d := by
        rcases hdd with hdd | ⟨-, hst⟩
        · exact hdd
        · unfold isStB at hst
          split at hst
          · rename_i q; rw [q] at hcal0; cases hcal0
          · cases hst
      split at h
      · rename_i o1 σ1 hprep
        split at h
        · rename_i o0 f caps ops hcal
          split at h
          · rename_i o2 ars gs bs harg
            obtain ⟨h0, h1, h2, h3, h4, h5, r0, u0, hF, hpu, hlen, hre⟩ := h
            obtain ⟨θ1, B1, hs1⟩ := prepA_shp _ 0 hprep
            have e1 := hs1 σ rfl (fun _ _ => rfl)
            simp only [hprep] at e1
            injection e1 with e1; injection e1 with _ e1
            split at hre
            · rename_i ob2 σ2 hro
              obtain ⟨θ2, B2, hs2⟩ := reop_shp gs hro
              have e2 := hs2 _ rfl trivial
              simp only [hro] at e2
              injection e2 with e2; injection e2 with _ e2
              have hEf : ∀ τ : St, (⟨fun i => θ2 ((((⟨fun i => θ1 (τ.t i), B1⟩ : St).cal (o.dst.getD 999) gs r0 u0).put o.dst (shA (o.dst.getD 999) r0)).t i), B2⟩ : St) = Ef (fun y => θ2 (scT (qCal (o.dst.getD 999) gs u0) (θ1 y))) B2 o.dst (θ2 (shA (o.dst.getD 999) r0)) τ := fun τ => by
                unfold Ef
                rw [hdd]
                simp only [St.put, St.cal]
                congr 1
                funext i
                split <;> rfl
              refine ⟨fun y => θ2 (scT (qCal (o.dst.getD 999) gs u0) (θ1 y)), B2, θ2 (shA (o.dst.getD 999) r0), ?_, fun τ hτ hv x g a w hx hd hr K' Q hK => ?_⟩
              · rw [← hEf σ, ← e1, ← e2]; exact hre.2
              · have p1 := hs1 τ hτ (fun z hz => hv z (aFn_ops hcal0 z hz))
                simp only at p1
                have hv1 : ∀ z ∈ o.op.operands, ev ⟨fun i => θ1 (τ.t i), B1⟩ z = ev σ1 z := fun z hz => by rw [e1]; exact ev_th (hv z hz)
                have hb1 : (⟨fun i => θ1 (τ.t i), B1⟩ : St).b = σ1.b := by rw [e1]
                refine call_ok (K0 := fun s => s = Ef (fun y => θ2 (scT (qCal (o.dst.getD 999) gs u0) (θ1 y))) B2 o.dst (θ2 (shA (o.dst.getD 999) r0)) τ) hx ?_ hd hr (fun σ' g' a' w' q1 q2 => by subst q2; exact hK g' a' w' q1)
                unfold ACall
                simp only [(aFn_congr o.op hv).trans hcal0, p1, (aFn_congr o.op hv1).trans hcal, (aArgs_congr hb1 (M.md f0) ops 0 (fun z hz => hv1 z (aFn_ops hcal z hz))).trans harg]
                refine ⟨h0, h1, h2, h3, h4, h5, _, hF, ?_⟩
                rintro r outs ⟨rfl, rfl⟩
                refine ⟨hpu, hlen, ?_⟩
                have p2 := hs2 (((⟨fun i => θ1 (τ.t i), B1⟩ : St).cal (o.dst.getD 999) gs r outs).put o.dst (shA (o.dst.getD 999) r)) (by rw [St.put_b, St.put_b]; unfold St.cal; have hb2 : B1 = σ1.b := hb1; simp only [hb2]) trivial
                simp only at p2
                simp only [p2]
                exact ⟨hre.1, hEf τ⟩
            · exact hre.elim
          · exact h.elim
        · exact h.elim
      · exact h.elim
    · exact h.elim
def valD (σ : St) (o : Oper) : D := match o.dst with | some d => σ.t d | none => .un
theorem aFlQ_mem {M : Md} {ops : Array Oper} {σ τ : St} : ∀ {l : List Oper}, aFlQ M ops σ τ l → ∀ o ∈ l, ∃ d, o.dst = some d ∧ τ.t d = σ.t d ∧ aqst M ops o τ (fun τ' => τ'.t d = σ.t d)
  | [], _, o, ho => by cases ho
  | o' :: r, h, o, ho => by
    simp only [aFlQ] at h
    rcases List.mem_cons.1 ho with rfl | ho
    · obtain ⟨q, -⟩ := h
      split at q
      · rename_i d hd
        exact ⟨d, hd, q.1, q.2⟩
      · exact q.elim
    · exact aFlQ_mem h.2 o ho
def dstB (ops : Array Oper) (m : Nat) : Bool := (List.range m).all fun i => (List.range m).all fun j => i == j || match ops[i]?, ops[j]? with
  | some a, some b => a.dst.isNone || a.dst != b.dst
  | _, _ => false
theorem walkE_of {M : Md} {P : Program} (hP : M.P = P) {N : Nat} {ops : Array Oper} {m : Nat} {fx : List Nat} {fl : Nat → Nat → Bool} (hc : chk N ops = true) (hd : dstB ops m = true) :
    ∀ (tr : Tr) (al dn : List Nat) (listed : Array Bool) (acc : List (Nat × Oper)) (K : St → Prop) (σ : St), ordB ops m fx fl tr al dn listed = true → (∀ p ∈ acc, ops[p.1]? = some p.2 ∧ p.1 < m ∧ p.1 ∈ dn ∧ fx.contains p.1 = false) →
      aqsN M ops fl K tr acc σ → tr.isNo = false → ∃ (τ : St) (Ls : List Fx → Prop), K τ ∧ walkE P N ops τ tr Ls σ ∧ (∃ es, Ls es) ∧ (∀ es, Ls es → ∀ e ∈ es, FxOk ops m e ∧ fx.contains e.i = true) ∧ ∀ p ∈ acc, ∀ es, Ls es → FlC P N ops p.1 (valD σ p.2) p.2 es σ
  | .nil, al, dn, listed, acc, K, σ, hB, hacc, h, _ => ⟨σ, fun es => es = [], h, rfl, ⟨[], rfl⟩, fun es hes e he => (by subst hes; cases he), fun p hp es hes => by subst hes; trivial⟩
  | .no, al, dn, listed, acc, K, σ, hB, hacc, h, hn => by cases hn
  | .fl i t, al, dn, listed, acc, K, σ, hB, hacc, h, _ => by
    unfold aqsN at h
    cases ho : ops[i]? with
    | none => rw [Array.getElem?_toList, ho] at h; exact h.elim
    | some o =>
    rw [Array.getElem?_toList, ho] at h
    simp only at h
    simp only [ordB, ho, Bool.and_eq_true, decide_eq_true_eq, Bool.not_eq_true'] at hB
    obtain ⟨⟨⟨⟨⟨⟨-, him⟩, hnd⟩, hr⟩, hp⟩, hB0, hB1⟩, hB2⟩ := hB
    have hni : i ∉ dn := by simpa using hnd
    obtain ⟨d, hod⟩ : ∃ d, o.dst = some d := by
      cases q : o.dst with
      | none => rw [q] at hB0; cases hB0
      | some d => exact ⟨d, rfl⟩
    rw [hod] at hB0
    simp only [Bool.and_eq_true, Bool.not_eq_true'] at hB0
    have hself : ∀ d', o.dst = some d' → d' ∉ o.looksAt ops := fun d' hd' => by
      rw [hod] at hd'; injection hd' with hd'; subst hd'
      simpa using hB0.1
    have hdis : ∀ k ok, ops[k]? = some ok → k < m → k ≠ i → ∀ d, o.dst = some d → ok.dst ≠ some d := fun k ok hk hkm hki d hd' e => by
      have := List.all_eq_true.1 (List.all_eq_true.1 hd k (List.mem_range.2 hkm)) i (List.mem_range.2 him)
      simp [hk, ho, hki, e, hd'] at this
    have hlk : ∀ p ∈ acc, ∀ d', o.dst = some d' → d' ∉ p.2.looksAt ops := fun p hp d' hd' => by
      obtain ⟨q1, q2, q3, q4⟩ := hacc p hp
      rw [hod] at hd'; injection hd' with hd'; subst hd'
      have := List.all_eq_true.1 hB0.2 p.1 q3
      simpa [q1] using this
    have hpi : ∀ p ∈ acc, p.1 ≠ i := fun p hp e => hni (e ▸ (hacc p hp).2.2.1)
    have hvd : ∀ (τ : St) (z : D), ∀ p ∈ acc, valD (τ.put o.dst z) p.2 = valD τ p.2 := fun τ z p hp => by
      obtain ⟨q1, q2, q3, q4⟩ := hacc p hp
      unfold valD
      cases hpd : p.2.dst with
      | none => rfl
      | some d' =>
        have : d' ≠ d := fun e => hdis p.1 p.2 q1 q2 (hpi p hp) d hod (by rw [hpd, e])
        simp [St.put, hod, this]
    obtain ⟨y, hy, hK⟩ := aqst_yl hP hc ⟨i, ho⟩ h
    obtain ⟨τ, Ls, g0, h1, hn1, h2, h3⟩ := walkE_of hP hc hd t [] (i :: dn) _ ((i, o) :: acc) K _ hB2 (fun p hpm => by
      rcases List.mem_cons.1 hpm with rfl | hpm
      · exact ⟨ho, him, by simp, hp⟩
      · obtain ⟨q1, q2, q3, q4⟩ := hacc p hpm
        exact ⟨q1, q2, List.mem_cons_of_mem _ q3, q4⟩) hK (by cases t <;> first | rfl | (simp [ordB] at hB2; done))
    have hne : ∀ es, Ls es → ∀ e ∈ es, FxOk ops m e ∧ e.i ≠ i := fun es hes e he => ⟨(h2 es hes e he).1, fun q => by
      have := (h2 es hes e he).2
      rw [q, hp] at this; cases this⟩
    refine ⟨τ, Ls, g0, ⟨o, ho, y, hy, fun es hes => ?_, h1⟩, hn1, h2, fun p hpm es hes => ?_⟩
    · have q := h3 (i, o) (by simp) es hes
      have hv : valD (σ.put o.dst y) o = y := by simp [valD, hod, St.put]
      rw [hv] at q
      exact FlC.unput ho him hself es σ y (hne es hes) q
    · have q := h3 p (List.mem_cons_of_mem _ hpm) es hes
      rw [hvd σ y p hpm] at q
      exact FlC.unput ho him (hlk p hpm) es σ y (hne es hes) q
  | .fx i t r, al, dn, listed, acc, K, σ, hB, hacc, h, _ => by
    unfold aqsN at h
    cases ho : ops[i]? with
    | none => rw [Array.getElem?_toList, ho] at h; exact h.elim
    | some o =>
    rw [Array.getElem?_toList, ho] at h
    simp only at h
    simp only [ordB, ho, Bool.and_eq_true, decide_eq_true_eq, Bool.not_eq_true', Option.isNone_iff_eq_none] at hB
    obtain ⟨⟨⟨⟨⟨⟨⟨him, hnd⟩, hr⟩, hp⟩, hB0, ⟨hgd, -⟩, hdn⟩, hlen⟩, hB2⟩, hB3⟩ := hB
    have hni : i ∉ dn := by simpa using hnd
    have hdd : (∃ d, o.dst = some d) ∨ (o.dst = none ∧ isStB o.op = true) := by
      cases q : o.dst with
      | none => rw [q] at hB0; exact .inr ⟨rfl, hB0⟩
      | some d => exact .inl ⟨d, rfl⟩
    have hdis : ∀ k ok, ops[k]? = some ok → k < m → k ≠ i → ∀ d, o.dst = some d → ok.dst ≠ some d := fun k ok hk hkm hki d hd' e => by
      have := List.all_eq_true.1 (List.all_eq_true.1 hd k (List.mem_range.2 hkm)) i (List.mem_range.2 him)
      simp [hk, ho, hki, e, hd'] at this
    have hpi : ∀ p ∈ acc, p.1 ≠ i := fun p hp e => hni (e ▸ (hacc p hp).2.2.1)
    simp only [aPivN] at h
    obtain ⟨θ, B, y, ⟨hflo, hK⟩, hrun⟩ := aEff_fx hdd h
    have hdN : ∀ d, o.dst = some d → d < N ∧ d < 999 := fun d q => chk_spec hc ho q
    have hS : SoundP P N ops o (Ef θ B o.dst y) σ := by
      intro σ1 e1 e2 x g a w hx hN hr
      refine ⟨by simp [Region.wanted, hgd], fun K Q hKK => ?_⟩
      subst hP
      rw [← hx]
      refine hrun σ1 e2 (looks_op e1) hx (fun d q => by rw [hN]; exact hdN d q) hr fun g' a' w' h' => hKK _ _ _ h'
    obtain ⟨τ, Ls1, ⟨gA, g0⟩, h1, ⟨es0, hes0⟩, h2, h3⟩ := walkE_of hP hc hd t [] (i :: dn) _ (acc.filter fun p => fl i p.1) _ _ hB2 (fun p hpm => by
      obtain ⟨q1, q2, q3, q4⟩ := hacc p (List.mem_filter.1 hpm).1
      exact ⟨q1, q2, List.mem_cons_of_mem _ q3, q4⟩) hK (by cases t <;> first | rfl | (simp [ordB] at hB2; done))
    obtain ⟨Ls2, k1, k2, k3⟩ : ∃ Ls2 : List Fx → Prop, walkE P N ops τ r Ls2 σ ∧ (∀ es, Ls2 es → ∀ e ∈ es, FxOk ops m e ∧ fx.contains e.i = true) ∧ ∀ p ∈ acc, ∀ es, Ls2 es → FlC P N ops p.1 (valD σ p.2) p.2 es σ := by
      cases hno : r.isNo with
      | true =>
        refine ⟨fun _ => False, ?_, fun _ q => q.elim, fun _ _ _ q => q.elim⟩
        cases r <;> first | trivial | (cases hno; done)
      | false =>
        obtain ⟨τ', Ls2, m0, m1, -, m2, m3⟩ := walkE_of hP hc hd r (i :: al) dn listed acc _ σ hB3 hacc gA hno
        have : τ' = τ := m0
        subst this
        exact ⟨Ls2, m1, m2, m3⟩
    have hfx : FxOk ops m ⟨i, Ef θ B o.dst y, θ⟩ := fun τ k ok z hk hkm hki => Ef_put τ ok.dst z (fun q1 q2 => by cases hod : o.dst with | none => exact q1 (q2.trans hod) | some d0 => exact hdis k ok hk hkm hki d0 hod (q2.trans hod))
    refine ⟨τ, fun es => (∃ es', es = ⟨i, Ef θ B o.dst y, θ⟩ :: es' ∧ Ls1 es') ∨ Ls2 es, g0, ⟨⟨o, ho, ⟨i, Ef θ B o.dst y, θ⟩, Ls1, rfl, hS, ⟨es0, hes0⟩, fun es q => .inl ⟨es, rfl, q⟩, h1⟩, Ls2, fun es q => .inr q, k1⟩, ⟨_, .inl ⟨es0, rfl, hes0⟩⟩, fun es q e he => ?_, fun p hpm es q => ?_⟩
    · rcases q with ⟨es', rfl, q⟩ | q
      · rcases List.mem_cons.1 he with rfl | he
        · exact ⟨hfx, hp⟩
        · exact h2 es' q e he
      · exact k2 es q e he
    · rcases q with ⟨es', rfl, q⟩ | q
      · obtain ⟨q1, q2, q3, q4⟩ := hacc p hpm
        have hb := List.all_eq_true.1 hdn p.1 q3
        simp only [q1, q4, Bool.false_or, Bool.or_eq_true] at hb
        rcases hb with hb | hb
        · exact .inl hb
        · right
          have hpf : p ∈ acc.filter fun p => fl i p.1 := List.mem_filter.2 ⟨hpm, hb⟩
          obtain ⟨d', e1, e3, e2⟩ := aFlQ_mem hflo p.2 (List.mem_map.2 ⟨p, hpf, rfl⟩)
          have hv : valD σ p.2 = σ.t d' := by simp [valD, e1]
          have hθ : (Ef θ B o.dst y σ).t d' = θ (σ.t d') := by
            cases hod : o.dst with
            | none => simp [Ef, St.put]
            | some d =>
              have hne : d' ≠ d := fun e => hdis p.1 p.2 q1 q2 (hpi p hpm) d hod (by rw [e1, e])
              simp [Ef, St.put, hne]
          refine ⟨?_, ?_, ?_⟩
          · rw [hv]; exact hθ.symm.trans e3
          · rw [hv]
            obtain ⟨y', hy', hKy⟩ := aqst_yl hP (N := N) hc (o := p.2) ⟨p.1, q1⟩ e2
            have : y' = σ.t d' := by
              simpa [St.put, e1] using hKy
            rw [← this]; exact hy'
          · have q' := h3 p hpf es' q
            have : valD (Ef θ B o.dst y σ) p.2 = valD σ p.2 := by simp only [valD, e1]; exact e3
            rw [this] at q'
            exact q'
      · exact k3 p hpm es q
def drawQB (ops : Array Oper) (m : Nat) (fx : List Nat) (fl : Nat → Nat → Bool) (tr : Tr) : Bool :=
  decide (m ≤ ops.size) && (tr.len == m) && !tr.isNo && dstB ops m &&
  ((List.range ops.size).all fun i => match ops[i]? with | some o => o.after.all fun e => !Region.binds .any e || decide (e.on < i) | none => true) &&
  ((List.range ops.size).all fun j => decide (j < m) || (((List.range m).all fun i => ancB ops j ops.size i) && (j == m || bnd ops j (j - 1)))) &&
  ordB ops m fx fl tr [] [] (Array.replicate ops.size false)
end Go.Proofs.YtgcdbmcoendcdaaGreat

namespace Go.Proofs.YtgcdbmcoendcdaaGreat
set_option linter.unusedVariables false
set_option linter.unusedSimpArgs false
open Go.RowKit
abbrev Plan := Nat × List Nat × List (Nat × Nat) × Tr
def flF : List (Nat × Nat) → Nat → Nat → Bool
  | [], _, _ => false
  | (a, b) :: r, i, j => (i == a && j == b) || flF r i j
def plF : List (Nat × Plan) → Nat → Option Plan
  | [], _ => none
  | (i, p) :: r, n => if n = i then some p else plF r n
def chkC (pl : List (Nat × Plan)) (N : Nat) : Code → Bool
  | .region id ops dr => chk N ops && (!dr || match plF pl id with
    | some (m, fx, fl, π) => drawQB ops m fx (flF fl) π
    | none => true)
  | .seq c d => chkC pl N c && chkC pl N d
  | .cond _ c d => chkC pl N c && chkC pl N d
  | .block _ c => chkC pl N c
  | .loop c => chkC pl N c
  | _ => true
def AC (M : Md) (N : Nat) (pl : List (Nat × Plan)) (c : Code) (K : Exit → St → Prop) (σ : St) : Prop :=
  chkC pl N c = true → ∀ (x : Cx) (g : Gh) (a : Act) (w : World) (Q : Exit → Act → World → Prop), x.P = M.P → x.N = N → Rel x g σ a w → (∀ e σ' g' a' w', Rel x g' σ' a' w' → K e σ' → Q e a' w') → c.wp M.P Q a w
def ACL (M : Md) (N : Nat) (pl : List (Nat × Plan)) (c : Code) (K : Exit → St → Prop) (σ : St) : Prop := AC M N pl (.loop c) K σ
def thenK (K' : St → Prop) (K : Exit → St → Prop) : Exit → St → Prop
  | .normal, σ => K' σ
  | e, σ => K e σ
def blockK (id : Nat) (K : Exit → St → Prop) : Exit → St → Prop
  | .exit id', σ => if id' = id then K .normal σ else K (.exit id') σ
  | e, σ => K e σ
def condV (y : D) (A B : Prop) : Prop := match y with
  | .s (.bool t) => (t = true → A) ∧ (t = false → B)
  | _ => False
section
variable {M : Md} {N : Nat} {pl : List (Nat × Plan)} {K : Exit → St → Prop} {σ : St}
theorem Rel.drew {x : Cx} {g : Gh} {a : Act} {w : World} (h : Rel x g σ a w) : Rel x g σ a w.drew := by
  have ev : Ev (fun _ => True) (fun p => p) pAll pAll g g w w.drew := ⟨⟨fun b hb => ⟨hb, rfl⟩, fun b p hb _ => ⟨hb, rfl⟩, fun b p o _ _ => ⟨trivial, rfl⟩⟩, fun i _ => ⟨rfl, rfl⟩, fun i _ => ⟨rfl, trivial, rfl⟩⟩
  have := h.ev ev ((Below.refl _ _).drew) (fun b _ _ => rfl) (fun b _ hs => .inl hs) h.new h.own
  rwa [sc_all] at this
theorem AC_drawQ {id : Nat} {l : List Oper} (m : Nat) (fx : List Nat) (fl : Nat → Nat → Bool) (π : Tr) (hB : drawQB l.toArray m fx fl π = true) (hc : chk N l.toArray = true)
    (h : aqsN M l.toArray fl (aops M l.toArray (K .normal) (l.drop m)) π [] σ) : ∀ (x : Cx) (g : Gh) (a : Act) (w : World) (Q : Exit → Act → World → Prop), x.P = M.P → x.N = N → Rel x g σ a w → (∀ e σ' g' a' w', Rel x g' σ' a' w' → K e σ' → Q e a' w') → (Code.region id l.toArray true).wp M.P Q a w := by
  intro x g a w Q hx hN hr hQ
  unfold drawQB at hB
  simp only [Bool.and_eq_true, decide_eq_true_eq, beq_iff_eq, Bool.not_eq_true'] at hB
  obtain ⟨⟨⟨⟨⟨⟨b0, bl⟩, bn⟩, b1⟩, b2⟩, b3⟩, b4⟩ := hB
  have hget : ∀ j : Nat, l.toArray[j]? = l[j]? := fun j => by simp
  have hsz : l.toArray.size = l.length := by simp
  have hb : ∀ i o, l.toArray[i]? = some o → ∀ e ∈ o.after, Region.binds .any e = true → e.on < i := fun i o ho e he hbd => by
    have hi := (Array.getElem?_eq_some_iff.1 ho).1
    have := all_range b2 hi
    simp only [ho] at this
    have := Array.all_eq_true'.1 this e he
    simpa [hbd] using this
  have htl : ∀ j, m ≤ j → j < l.toArray.size → ∀ i, i < m → ancB l.toArray j l.toArray.size i = true := fun j hj hjs i hi => by
    have := all_range b3 hjs
    simp only [Bool.or_eq_true, decide_eq_true_eq, Bool.and_eq_true] at this
    rcases this with q | q
    · omega
    · exact all_range q.1 hi
  have htc : ∀ j, m < j → j < l.toArray.size → bnd l.toArray j (j - 1) = true := fun j hj hjs => by
    have := all_range b3 hjs
    simp only [Bool.or_eq_true, decide_eq_true_eq, Bool.and_eq_true, beq_iff_eq] at this
    rcases this with q | ⟨-, q | q⟩
    · omega
    · omega
    · exact q
  obtain ⟨τ, Ls, hτ, h1, -, h2, -⟩ := walkE_of (M := M) rfl (N := N) hc b1 π [] [] _ [] _ σ b4 (fun p hp => by cases hp) h bn
  have hA := (aAnyE_walk (P := M.P) (N := N) htl π [] [] _ Ls σ b4 h2 (by simp) (fun k o hk hl => by
    rw [Array.getD_eq_getD_getElem?] at hl
    rcases Nat.lt_or_ge k (Array.replicate l.toArray.size false).size with q | q
    · rw [Array.getElem?_eq_getElem q] at hl; simp at hl
    · rw [Array.getElem?_eq_none q] at hl; simp at hl) h1).1 rfl
  refine wp_region_any M.mix ?_
  have hfin := wpAny_of_aAnyE (K := fun σ' => σ' = τ) (Q := Q) (n := (l.drop m).length) hx hN b0 (fun σ' g' a' w' listed hs hl1 hl2 hr' hK' => by
    subst hK'
    have hK' := hτ
    refine wpAny_tail hb (l.drop m) m listed a' w' (by rw [hsz] at b0 ⊢; simp; omega) (fun j hj => by rw [hget]; simp) (fun j hj hjs => htc j hj hjs) hs hl1 hl2 ?_
    subst hN
    rw [← hx]
    exact aops_sound hx hc (fun σ' g' a' w' hr' hK => hQ _ _ _ _ _ hr' hK) _ (fun o ho d hd => by
      obtain ⟨j, hj⟩ := List.mem_iff_getElem?.1 ho
      rw [List.getElem?_drop] at hj
      exact chk_spec hc (j := m + j) (o := o) (by rw [hget]; exact hj) hd) _ _ _ _ hr' hK') π.len (Array.replicate l.toArray.size false) Ls σ g a w.drew (by simp) (fun j hj hjs => by simp at hjs ⊢; simp [hjs]) hr.drew hA
  have e : (l.drop m).length + π.len = l.toArray.size := by rw [bl]; simp at b0 ⊢; omega
  rw [e] at hfin
  exact hfin
def stp (M : Md) (N : Nat) (pl : List (Nat × Plan)) : Code → (Exit → St → Prop) → St → Prop
  | .skip, K, σ => K .normal σ
  | .exit id, K, σ => K (.exit id) σ
  | .ret, K, σ => K .ret σ
  | .seq c d, K, σ => stp M N pl c (thenK (AC M N pl d K) K) σ
  | .block id c, K, σ => stp M N pl c (blockK id K) σ
  | .cond z c d, K, σ => condV (ev σ z) (AC M N pl c K σ) (AC M N pl d K σ)
  | .region id ops dr, K, σ => match dr with
    | false => aops (M.at id) ops (K .normal) ops.toList σ
    | true => match plF pl id with
      | some (m, fx, fl, π) => aqsN (M.at id) ops (flF fl) (aops (M.at id) ops (K .normal) (ops.toList.drop m)) π [] σ
      | none => False
  | .loop c, K, σ => ACL M N pl c K σ
  | _, _, _ => False
theorem stp_ok : ∀ (c : Code) (K : Exit → St → Prop) (σ : St), stp M N pl c K σ → AC M N pl c K σ
  | .skip, K, σ, h => fun _ x g a w Q _ _ hr hQ => wp_skip (hQ _ _ _ _ _ hr h)
  | .exit id, K, σ, h => fun _ x g a w Q _ _ hr hQ => wp_exit (hQ _ _ _ _ _ hr h)
  | .ret, K, σ, h => fun _ x g a w Q _ _ hr hQ => wp_ret (hQ _ _ _ _ _ hr h)
  | .seq c d, K, σ, h => by
    intro hck x g a w Q hx hN hr hQ
    simp only [chkC, Bool.and_eq_true] at hck
    refine wp_seq (stp_ok c _ σ h hck.1 x g a w _ hx hN hr fun e σ' g' a' w' hr' hK => ?_)
    cases e with
    | normal => exact hK hck.2 x g' a' w' Q hx hN hr' hQ
    | exit id => exact hQ _ _ _ _ _ hr' hK
    | goto l => exact hQ _ _ _ _ _ hr' hK
    | ret => exact hQ _ _ _ _ _ hr' hK
    | panic c => exact hQ _ _ _ _ _ hr' hK
    | outgrown => exact hQ _ _ _ _ _ hr' hK
  | .block id c, K, σ, h => by
    intro hck x g a w Q hx hN hr hQ
    simp only [chkC] at hck
    refine wp_block (stp_ok c _ σ h hck x g a w _ hx hN hr fun e σ' g' a' w' hr' hK => ?_)
    cases e with
    | exit id' =>
      simp only [Exit.inBlock]
      simp only [blockK] at hK
      split
      · rename_i e; rw [if_pos e] at hK; exact hQ _ _ _ _ _ hr' hK
      · rename_i e; rw [if_neg e] at hK; exact hQ _ _ _ _ _ hr' hK
    | normal => exact hQ _ _ _ _ _ hr' hK
    | goto l => exact hQ _ _ _ _ _ hr' hK
    | ret => exact hQ _ _ _ _ _ hr' hK
    | panic c => exact hQ _ _ _ _ _ hr' hK
    | outgrown => exact hQ _ _ _ _ _ hr' hK
  | .cond z c d, K, σ, h => by
    intro hck x g a w Q hx hN hr hQ
    simp only [chkC, Bool.and_eq_true] at hck
    simp only [stp, condV] at h
    split at h
    · rename_i t hz
      have hv := ev_ok hr z
      rw [hz] at hv
      have hv : a.eval z = .bool t := Rep.s_inv (show Rep g.S g.up w none (.s (.bool t)) _ from hv)
      exact wp_cond_split hv (fun e => h.1 e hck.1 x g a w Q hx hN hr hQ) (fun e => h.2 e hck.2 x g a w Q hx hN hr hQ)
    · exact h.elim
  | .region id ⟨l⟩ dr, K, σ, h => by
    intro hck x g a w Q hx hN hr hQ
    simp only [chkC, Bool.and_eq_true] at hck
    cases dr with
    | false =>
      simp only [stp] at h
      subst hN
      rw [← hx]
      refine wp_region_lit (aops_sound (M := M.at id) hx hck.1 (fun σ' g' a' w' hr' hK => hQ _ _ _ _ _ hr' hK) l (fun o ho d hd => ?_) σ g a w hr h)
      obtain ⟨j, hj⟩ := List.mem_iff_getElem?.1 ho
      exact chk_spec hck.1 (j := j) (o := o) (by simpa using hj) hd
    | true =>
      simp only [stp] at h
      simp only [Bool.not_true, Bool.false_or] at hck
      split at h
      · rename_i m fx fl π hp
        rw [hp] at hck
        exact AC_drawQ (M := M.at id) m fx (flF fl) π hck.2 hck.1 h x g a w Q hx hN hr hQ
      · exact h.elim
  | .loop c, K, σ, h => h
  | .rangeFunc _ _ _ _, K, σ, h => h.elim
  | .goto _, K, σ, h => h.elim
theorem AC_go {c : Code} (h : stp M N pl c K σ) : AC M N pl c K σ := stp_ok c K σ h
theorem AC_loop {c : Code} (J : Nat → St → Prop) (n0 : Nat) (h0 : J n0 σ) (round : ∀ n σ, J n σ → ∀ K' : St → Prop, (∀ n' σ', n' < n → J n' σ' → K' σ') → AC M N pl c (thenK K' K) σ) : ACL M N pl c K σ := by
  intro hck x g a w Q hx hN hr hQ
  simp only [chkC] at hck
  refine wp_loop_ghost (fun n a w => ∃ σ g, Rel x g σ a w ∧ J n σ) n0 ⟨σ, g, hr, h0⟩ ?_
  rintro n a w ⟨σ, g, hr, hJ⟩
  refine round n σ hJ (fun σ' => ∃ n', n' < n ∧ J n' σ') (fun n' σ' h1 h2 => ⟨n', h1, h2⟩) hck x g a w _ hx hN hr fun e σ' g' a' w' hr' hK => ?_
  cases e with
  | normal =>
    obtain ⟨n', hlt, hJ'⟩ := hK
    exact ⟨n', hlt, σ', g', hr', hJ'⟩
  | exit id => exact hQ _ _ _ _ _ hr' hK
  | goto l => exact hQ _ _ _ _ _ hr' hK
  | ret => exact hQ _ _ _ _ _ hr' hK
  | panic c => exact hQ _ _ _ _ _ hr' hK
  | outgrown => exact hQ _ _ _ _ _ hr' hK
theorem ACL_ac {c : Code} (h : AC M N pl (.loop c) K σ) : ACL M N pl c K σ := h
/-! ### the frame seen otherwise -/
theorem AC_weak {c : Code} {σ' : St} (hw : ∀ (x : Cx) (g : Gh) (a : Act) (w : World), x.P = M.P → x.N = N → Rel x g σ a w → ∃ g', Rel x g' σ' a w) (h : AC M N pl c K σ') : AC M N pl c K σ := by
  intro hck x g a w Q hx hN hr hQ
  obtain ⟨g', hr'⟩ := hw x g a w hx hN hr
  exact h hck x g' a w Q hx hN hr' hQ
theorem AC_fr {c : Code} (id : Nat) (o : Ob) (hb : σ.b id = some o) (hd : deepO o = true) (h : AC M N pl c K (σ.fr id o)) : AC M N pl c K σ := AC_weak (fun x g a w _ _ hr => hr.freeze id o hb hd) h
theorem AC_fold {c : Code} (id : Nat) {ob : Prop} {ds : List D} {σ' : St} (hf : foldB σ id = some (ob, ds, σ')) (ho : ob) (h : AC M N pl c K σ') : AC M N pl c K σ := AC_weak (fun x g a w _ _ hr => hr.foldB hf ho) h
theorem AC_unf {c : Code} (id : Nat) (row : List D) (hb : σ.b id = some (.box row)) (hd : row.all deepB = true) (hid : id < 1000000) (h : AC M N pl c K (σ.unfB id row)) : AC M N pl c K σ := AC_weak (fun x g a w _ _ hr => hr.unfB hb hd hid) h
def Wk (M : Md) (N : Nat) (σ σ' : St) : Prop := ∀ (x : Cx) (g : Gh) (a : Act) (w : World), x.P = M.P → x.N = N → Rel x g σ a w → ∃ g', Rel x g' σ' a w
theorem Wk.refl : Wk M N σ σ := fun _ g _ _ _ _ h => ⟨g, h⟩
theorem Wk.trans {σ' σ'' : St} (h : Wk M N σ σ') (h' : Wk M N σ' σ'') : Wk M N σ σ'' := fun x g a w hx hN hr => (h x g a w hx hN hr).elim fun g' hr' => h' x g' a w hx hN hr'
theorem AC_loopW {c : Code} (J : Nat → St → Prop) (n0 : Nat) (h0 : J n0 σ) (round : ∀ n σ, J n σ → ∀ K' : St → Prop, (∀ n' σ' σ'', n' < n → Wk M N σ' σ'' → J n' σ'' → K' σ') → AC M N pl c (thenK K' K) σ) : ACL M N pl c K σ := by
  intro hck x g a w Q hx hN hr hQ
  simp only [chkC] at hck
  refine wp_loop_ghost (fun n a w => ∃ σ g, Rel x g σ a w ∧ J n σ) n0 ⟨σ, g, hr, h0⟩ ?_
  rintro n a w ⟨σ, g, hr, hJ⟩
  refine round n σ hJ (fun σ' => ∃ n' σ'', n' < n ∧ Wk M N σ' σ'' ∧ J n' σ'') (fun n' σ' σ'' h1 h2 h3 => ⟨n', σ'', h1, h2, h3⟩) hck x g a w _ hx hN hr fun e σ' g' a' w' hr' hK => ?_
  cases e with
  | normal =>
    obtain ⟨n', σ'', hlt, hw, hJ'⟩ := hK
    obtain ⟨g'', hr''⟩ := hw x g' a' w' hx hN hr'
    exact ⟨n', hlt, σ'', g'', hr'', hJ'⟩
  | exit id => exact hQ _ _ _ _ _ hr' hK
  | goto l => exact hQ _ _ _ _ _ hr' hK
  | ret => exact hQ _ _ _ _ _ hr' hK
  | panic c => exact hQ _ _ _ _ _ hr' hK
  | outgrown => exact hQ _ _ _ _ _ hr' hK
theorem Wk_open (id i j nm : Nat) {e k : Nat} {rows : List (List D)} {row : List D} {d : D} {o : Ob} (hb : σ.b id = some (.arr e k rows)) (hi : rows[i]? = some row) (hd : row[j]? = some d) (hu : unfD d = some o) (hne : nm ≠ id) (hnP : isP nm = false) : Wk M N σ (σ.opE id e k rows i j nm d o) := fun x g a w _ _ hr => hr.openE hb i j nm hi hd hu hne hnP
theorem AC_open {c : Code} (id i j nm : Nat) {e k : Nat} {rows : List (List D)} {row : List D} {d : D} {o : Ob} (hb : σ.b id = some (.arr e k rows)) (hi : rows[i]? = some row) (hd : row[j]? = some d) (hu : unfD d = some o) (hne : nm ≠ id) (hnP : isP nm = false) (h : AC M N pl c K (σ.opE id e k rows i j nm d o)) : AC M N pl c K σ := AC_weak (Wk_open id i j nm hb hi hd hu hne hnP) h
theorem Wk_close (id nm : Nat) {e k i j : Nat} {rows : List (List D)} {r d : D} {ob : Prop} (hb : σ.b id = some (.hol e k rows i j r)) (hf : fdC σ r = some (ob, d)) (ho : ob) (hr : idC r = some nm) (hne : nm ≠ id) : Wk M N σ ((σ.sc (pOut [nm]) (pOut [nm])).setB id (.arr e k (rows.set i ((rows.getD i []).set j d)))) := fun x g a w _ _ hr' => hr'.closeE hb hf ho hr hne
theorem AC_close {c : Code} (id nm : Nat) {e k i j : Nat} {rows : List (List D)} {r d : D} {ob : Prop} (hb : σ.b id = some (.hol e k rows i j r)) (hf : fdC σ r = some (ob, d)) (ho : ob) (hr : idC r = some nm) (hne : nm ≠ id) (h : AC M N pl c K ((σ.sc (pOut [nm]) (pOut [nm])).setB id (.arr e k (rows.set i ((rows.getD i []).set j d))))) : AC M N pl c K σ := AC_weak (Wk_close id nm hb hf ho hr hne) h
theorem Wk_closeD (id : Nat) {e k i j : Nat} {rows : List (List D)} {r : D} (hb : σ.b id = some (.hol e k rows i j r)) (hd : deepB r = true) : Wk M N σ (σ.setB id (.arr e k (rows.set i ((rows.getD i []).set j r)))) := fun x g a w _ _ hr' => ⟨g, hr'.closeD hb hd⟩
theorem AC_closeD {c : Code} (id : Nat) {e k i j : Nat} {rows : List (List D)} {r : D} (hb : σ.b id = some (.hol e k rows i j r)) (hd : deepB r = true) (h : AC M N pl c K (σ.setB id (.arr e k (rows.set i ((rows.getD i []).set j r))))) : AC M N pl c K σ := AC_weak (Wk_closeD id hb hd) h
theorem AC_len {c : Code} (i : Nat) {k : Nat} {rows : List (List D)} (hi : bodyT (σ.t i) = .sl k rows) (ho : oblT (σ.t i)) (h : rows.length ≤ 9223372036854775807 → AC M N pl c K σ) : AC M N pl c K σ := by
  intro hck x g a w Q hx hN hr hQ
  have hb := body_ok (hr.tm i) ho
  rw [hi] at hb
  obtain ⟨_, _, _, h1, h2⟩ := Rep.sl_shape (show Rep g.S g.up w none (.sl k rows) _ from hb)
  exact h (by unfold maxLen at h2; omega) hck x g a w Q hx hN hr hQ
end
end Go.Proofs.YtgcdbmcoendcdaaGreat
