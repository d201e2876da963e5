/- The engine: regions that draw their order and hold one operation with an effect (a variable, an append) ahead of a tail in order. -/
import Derived.Test.YtokjkmibnjfkaaaAbN
namespace Go.Proofs.Ytokjkmibnjfkaaa
set_option linter.unusedVariables false
set_option linter.unusedSimpArgs false
open Go.RowKit
/-- operation j waits for operation i. -/
def bnd (ops : Array Oper) (j i : Nat) : Bool := match ops[j]? with
  | some o => o.after.any fun e => Region.binds .any e && e.on == i
  | none => false
theorem bnd_spec {ops : Array Oper} {j i : Nat} (h : bnd ops j i = true) : ∃ o e, ops[j]? = some o ∧ e ∈ o.after ∧ Region.binds .any e = true ∧ e.on = i := by
  unfold bnd at h
  split at h
  · rename_i o ho
    obtain ⟨e, he, hb⟩ := Array.any_eq_true'.1 h
    simp only [Bool.and_eq_true, beq_iff_eq] at hb
    exact ⟨o, e, ho, he, hb.1, hb.2⟩
  · cases h
/-- the operation at m cannot begin ahead of operation i. -/
def ancB (ops : Array Oper) (m : Nat) : Nat → Nat → Bool
  | 0, _ => false
  | f + 1, i => bnd ops m i || (List.range m).any fun k => bnd ops k i && ancB ops m f k
def Closed (ops : Array Oper) (listed : Array Bool) : Prop := ∀ k o, ops[k]? = some o → listed.getD k false = true → ∀ e ∈ o.after, Region.binds .any e = true → listed.getD e.on false = true
theorem anc_listed {ops : Array Oper} {m : Nat} {listed : Array Bool} (hc : Closed ops listed) (hm : m ∈ Region.ready .any ops listed) : ∀ (f i : Nat), ancB ops m f i = true → listed.getD i false = true
  | 0, _, h => by cases h
  | f + 1, i, h => by
    unfold ancB at h
    rcases Bool.or_eq_true_iff.1 h with h | h
    · obtain ⟨o, e, ho, he, hb, rfl⟩ := bnd_spec h
      obtain ⟨-, o', ho', hall⟩ := mem_ready.1 hm
      rw [ho] at ho'; injection ho' with ho'; subst ho'
      exact hall e he hb
    · obtain ⟨k, -, hk⟩ := List.any_eq_true.1 h
      simp only [Bool.and_eq_true] at hk
      obtain ⟨o, e, ho, he, hb, rfl⟩ := bnd_spec hk.1
      exact hc k o ho (anc_listed hc hm f k hk.2) e he hb
theorem closed_set {ops : Array Oper} {listed : Array Bool} (hc : Closed ops listed) {j : Nat} (hj : j ∈ Region.ready .any ops listed) : Closed ops (listed.setIfInBounds j true) := by
  intro k o ho hk e he hb
  refine getD_set_true ?_
  by_cases hjk : j = k
  · subst hjk
    obtain ⟨-, o', ho', hall⟩ := mem_ready.1 hj
    rw [ho] at ho'; injection ho' with ho'; subst ho'
    exact hall e he hb
  · rw [getD_set_ne false hjk] at hk
    exact hc k o ho hk e he hb
section
variable {P : Program} {N : Nat} {ops : Array Oper} {m : Nat} {E : St → St} {θ : T → T} {K : St → Prop}
def SoundP (P : Program) (N : Nat) (ops : Array Oper) (o : Oper) (E : St → St) (σ : St) : Prop :=
  ∀ σ1 : St, (∀ t ∈ o.looksAt ops, σ1.t t = σ.t t) → σ1.b = σ.b → ∀ (x : Cx) (g : Gh) (a : Act) (w : World), x.P = P → x.N = N → Rel x g σ1 a w →
    Region.wanted o (yielded ops a.tmps) = true ∧ ∀ (K : Act → World → Prop) (Q : Exit → Act → World → Prop), (∀ g' a' w', Rel x g' (E σ1) a' w' → K a' w') → o.wp P a w K Q
theorem SoundP.unput {o : Oper} {σ : St} {d : Option Tmp} {u : T} (h : SoundP P N ops o E (σ.put d u)) (hd : ∀ i, d = some i → i ∉ o.looksAt ops) : SoundP P N ops o E σ := by
  intro σ1 h1 h2
  exact h σ1 (fun t ht => (h1 t ht).trans (St.put_other σ u hd t ht).symm) (h2.trans (St.put_b _ _ _).symm)
def aAnyM (P : Program) (N : Nat) (ops : Array Oper) (m : Nat) (E : St → St) (K : St → Prop) : Nat → Array Bool → St → Prop
  | 0, listed, σ => (∀ j, j ≤ m → listed.getD j true = true) ∧ K σ
  | fuel + 1, listed, σ => Region.ready .any ops listed ≠ [] ∧ ∀ i ∈ Region.ready .any ops listed, ∃ o, ops[i]? = some o ∧ i ≤ m ∧
      ((i ≠ m ∧ ∃ y, Yl P N ops o σ y ∧ aAnyM P N ops m E K fuel (listed.setIfInBounds i true) (σ.put o.dst y)) ∨ (i = m ∧ SoundP P N ops o E σ ∧ aAnyM P N ops m E K fuel (listed.setIfInBounds i true) (E σ)))
/-- what an operation ahead of the one with the effect must fulfil. -/
structure Pre (ops : Array Oper) (m i : Nat) (oi : Oper) : Prop where
  lt : i < m
  tail : ∀ j, m < j → j < ops.size → bnd ops j i = true
  tail2 : ∀ j, m < j → j < ops.size → bnd ops j m = true
  ap : ∀ j oj, i < j → j ≤ m → ops[j]? = some oj → bnd ops j i = false → oi.apart ops oj = true
theorem aAnyM_first {i : Nat} {oi : Oper} {y : T} (hi : ops[i]? = some oi) (hm : m < ops.size) (hpre : ∀ k ok, ops[k]? = some ok → k < m → ok.dst ≠ none → ∀ om, ops[m]? = some om → ok.dst ≠ om.dst)
    (hE : ∀ (σ : St) (d : Option Tmp) (z : T), (∀ om, ops[m]? = some om → d ≠ none → d ≠ om.dst) → E (σ.put d z) = (E σ).put d (θ z)) (hp : Pre ops m i oi) :
    ∀ (fuel : Nat) (listed : Array Bool) (σ : St), listed.size = ops.size → Closed ops listed → (∀ j, j < i → listed.getD j true = true) →
      i ∈ Region.ready .any ops listed → Yl P N ops oi σ y → (listed.getD m true = false → ancB ops m ops.size i = true ∨ (θ y = y ∧ Yl P N ops oi (E σ) y)) →
      aAnyM P N ops m E K fuel (listed.setIfInBounds i true) (σ.put oi.dst y) → aAnyM P N ops m E K (fuel + 1) listed σ := by
  have hjm : ∀ (listed : Array Bool) (j : Nat), i ∈ Region.ready .any ops listed → j ∈ Region.ready .any ops listed → j ≤ m := by
    intro listed j hir hj
    rcases Nat.lt_or_ge m j with q | q
    · obtain ⟨hju, oj, hoj, hall⟩ := mem_ready.1 hj
      have hlt : j < ops.size := (Array.getElem?_eq_some_iff.1 hoj).1
      obtain ⟨o, e, ho, he, hb, hon⟩ := bnd_spec (hp.tail j q hlt)
      rw [hoj] at ho; injection ho with ho; subst ho
      have h1 := hall e he hb
      have h0 := (mem_ready.1 hir).1
      rw [hon] at h1
      rcases Nat.lt_or_ge i listed.size with h' | h'
      · simp [h'] at h0 h1; rw [h0] at h1; cases h1
      · simp [Array.getElem?_eq_none h'] at h1
    · exact q
  intro fuel
  induction fuel with
  | zero =>
    intro listed σ hsz hcl hbef hr hy hfl H
    refine ⟨fun h => (by rw [h] at hr; cases hr), fun j hj => ?_⟩
    have hle := hjm listed j hr hj
    by_cases hji : j = i
    · subst hji; exact ⟨oi, hi, hle, .inl ⟨by have := hp.lt; omega, y, hy, H⟩⟩
    · have h1 := H.1 j hle
      rw [getD_set_ne true (Ne.symm hji)] at h1
      rw [(mem_ready.1 hj).1] at h1
      cases h1
  | succ fuel ih =>
    intro listed σ hsz hcl hbef hr hy hfl H
    refine ⟨fun h => (by rw [h] at hr; cases hr), fun j hj => ?_⟩
    have hle := hjm listed j hr hj
    by_cases hji : j = i
    · subst hji; exact ⟨oi, hi, hle, .inl ⟨by have := hp.lt; omega, y, hy, H⟩⟩
    · obtain ⟨hjun, oj', hoj', hall⟩ := mem_ready.1 hj
      have hij : i < j := by
        rcases Nat.lt_or_ge j i with q | q
        · rw [hbef j q] at hjun; cases hjun
        · omega
      have hnot : bnd ops j i = false := by
        cases hb : bnd ops j i with
        | false => rfl
        | true =>
          obtain ⟨o, e, ho, he, hb, hon⟩ := bnd_spec hb
          rw [hoj'] at ho; injection ho with ho; subst ho
          have h1 := hall e he hb
          have h0 := (mem_ready.1 hr).1
          rw [hon] at h1
          rcases Nat.lt_or_ge i listed.size with h' | h'
          · simp [h'] at h0 h1; rw [h0] at h1; cases h1
          · simp [Array.getElem?_eq_none h'] at h1
      obtain ⟨a1, a2, a3⟩ := Oper.apart_spec (hp.ap j oj' hij hle hoj' hnot)
      obtain ⟨oj, hoj, -, hk⟩ := H.2 j (ready_mono hj hji)
      rw [hoj] at hoj'; injection hoj' with hoj'; subst hoj'
      have hsz' : (listed.setIfInBounds j true).size = ops.size := by simpa using hsz
      have hbef' : ∀ k, k < i → (listed.setIfInBounds j true).getD k true = true := fun k hk => by rw [getD_set_ne true (by omega)]; exact hbef k hk
      rcases hk with ⟨hjm', z, hz, H1⟩ | ⟨rfl, hS, H1⟩
      · refine ⟨oj, hoj, hle, .inl ⟨hjm', z, hz.unput a1, ?_⟩⟩
        refine ih (listed.setIfInBounds j true) _ hsz' (closed_set hcl hj) hbef' (ready_mono hr (Ne.symm hji)) (hy.put z a3) ?_ ?_
        · intro hmu
          rw [getD_set_ne true hjm'] at hmu
          rcases hfl hmu with q | ⟨q1, q2⟩
          · exact .inl q
          · refine .inr ⟨q1, ?_⟩
            rw [hE σ oj.dst z (fun om hom hne => hpre j oj hoj (by omega) hne om hom)]
            exact q2.put _ a3
        · rw [Array.setIfInBounds_comm _ _ hji, ← St.put_comm σ y z a2]
          exact H1
      · refine ⟨oj, hoj, hle, .inr ⟨rfl, hS.unput a1, ?_⟩⟩
        rcases hfl hjun with q | ⟨q1, q2⟩
        · exfalso
          have h1 := anc_listed hcl hj _ _ q
          have h0 := (mem_ready.1 hr).1
          have hilt : i < listed.size := by rw [hsz]; exact (Array.getElem?_eq_some_iff.1 hi).1
          simp [hilt] at h0 h1; rw [h0] at h1; cases h1
        · refine ih (listed.setIfInBounds j true) _ hsz' (closed_set hcl hj) hbef' (ready_mono hr (Ne.symm hji)) q2 ?_ ?_
          · intro hmu
            have hmlt : j < listed.size := by rw [hsz]; exact hm
            simp [hmlt] at hmu
          · rw [Array.setIfInBounds_comm _ _ hji]
            have := hE σ oi.dst y (fun om hom hne => hpre i oi hi hp.lt hne om hom)
            rw [q1] at this
            rw [← this]
            exact H1
def aLexM (P : Program) (N : Nat) (ops : Array Oper) (m : Nat) (om : Oper) (θ : T → T) (E : St → St) (K : St → Prop) : Nat → List Oper → St → Prop
  | _, [], σ => SoundP P N ops om E σ ∧ K (E σ)
  | k, o :: l, σ => ∃ y, Yl P N ops o σ y ∧ (ancB ops m ops.size k = true ∨ (θ y = y ∧ Yl P N ops o (E σ) y)) ∧ aLexM P N ops m om θ E K (k + 1) l (σ.put o.dst y)
theorem aAnyM_lex {om : Oper} (hom : ops[m]? = some om) (hpre : ∀ k ok, ops[k]? = some ok → k < m → ok.dst ≠ none → ok.dst ≠ om.dst)
    (hE : ∀ (σ : St) (d : Option Tmp) (z : T), (d ≠ none → d ≠ om.dst) → E (σ.put d z) = (E σ).put d (θ z)) (hp : ∀ i oi, ops[i]? = some oi → i < m → Pre ops m i oi)
    (hb : ∀ i o, ops[i]? = some o → ∀ e ∈ o.after, Region.binds .any e = true → e.on < i) (htl : ∀ j, m < j → j < ops.size → bnd ops j m = true) :
    ∀ (l : List Oper) (k : Nat) (listed : Array Bool) (σ : St), k + l.length = m → (∀ j, j < l.length → l[j]? = ops[k + j]?) → listed.size = ops.size → (∀ j, j < k → listed.getD j true = true) → (∀ j, k ≤ j → j < ops.size → listed.getD j true = false) →
      aLexM P N ops m om θ E K k l σ → aAnyM P N ops m E K (l.length + 1) listed σ
  | [], k, listed, σ, hk, _, hsz, hlt, hge, h => by
    have hkm : k = m := by simpa using hk
    subst hkm
    have hmlt : k < ops.size := (Array.getElem?_eq_some_iff.1 hom).1
    have hr : k ∈ Region.ready .any ops listed := mem_ready.2 ⟨hge k (Nat.le_refl _) hmlt, om, hom, fun e he hb' => by
      have h1 := hb k om hom e he hb'
      have h2 := hlt e.on h1
      have : e.on < listed.size := by omega
      simpa [this] using h2⟩
    refine ⟨fun h => (by rw [h] at hr; cases hr), fun j hj => ?_⟩
    obtain ⟨hju, oj, hoj, hall⟩ := mem_ready.1 hj
    have hjk : j = k := by
      rcases Nat.lt_trichotomy j k with q | q | q
      · rw [hlt j q] at hju; cases hju
      · exact q
      · exfalso
        have hjlt : j < ops.size := (Array.getElem?_eq_some_iff.1 hoj).1
        obtain ⟨o', e, ho', he, hb', hon⟩ := bnd_spec (htl j q hjlt)
        rw [hoj] at ho'; injection ho' with ho'; subst ho'
        have h1 := hall e he hb'
        have h2 := hge k (Nat.le_refl _) hmlt
        have h3 : k < listed.size := by omega
        rw [hon] at h1
        simp [h3] at h1 h2; rw [h2] at h1; cases h1
    subst hjk
    exact ⟨om, hom, Nat.le_refl _, .inr ⟨rfl, h.1, fun i hi => by
      by_cases hij : j = i
      · subst hij
        have : j < listed.size := by omega
        simp [this]
      · rw [getD_set_ne true hij]; exact hlt i (by omega), h.2⟩⟩
  | o :: l, k, listed, σ, hk, hl, hsz, hlt, hge, h => by
    have h0 : ops[k]? = some o := by have := hl 0 (by simp); simpa using this.symm
    have hkm : k < m := by simp at hk; omega
    have hklt : k < ops.size := (Array.getElem?_eq_some_iff.1 h0).1
    have hmlt : m < ops.size := (Array.getElem?_eq_some_iff.1 hom).1
    obtain ⟨y, hy, hfl, hK⟩ := h
    have hcl : Closed ops listed := fun i oi hoi hli e he hb' => by
      have hik : i < k := by
        rcases Nat.lt_or_ge i k with q | q
        · exact q
        · have hilt : i < ops.size := (Array.getElem?_eq_some_iff.1 hoi).1
          have h2 := hge i q hilt
          have : i < listed.size := by omega
          simp [this] at h2 hli; rw [h2] at hli; cases hli
      have h1 := hb i oi hoi e he hb'
      have h2 := hlt e.on (by omega)
      have : e.on < listed.size := by omega
      simpa [this] using h2
    have hr : k ∈ Region.ready .any ops listed := mem_ready.2 ⟨hge k (Nat.le_refl _) hklt, o, h0, fun e he hb' => by
      have h1 := hb k o h0 e he hb'
      have h2 := hlt e.on h1
      have : e.on < listed.size := by omega
      simpa [this] using h2⟩
    refine aAnyM_first h0 hmlt (fun i oi hi hlt' hne om' hom' => by rw [hom] at hom'; injection hom' with e; subst e; exact hpre i oi hi hlt' hne) (fun σ d z q => hE σ d z (fun hne => q om hom hne)) (hp k o h0 hkm) (l.length + 1) listed σ hsz hcl hlt hr hy (fun _ => hfl) ?_
    refine aAnyM_lex hom hpre hE hp hb htl l (k + 1) _ _ (by simp at hk; omega) (fun j hj => by have := hl (j + 1) (by simp; omega); simpa [Nat.add_assoc, Nat.add_comm 1 j] using this) (by simpa using hsz) (fun j hj => ?_) (fun j hj hjs => ?_) hK
    · by_cases e : k = j
      · subst e
        have : k < listed.size := by omega
        simp [this]
      · rw [getD_set_ne true e]; exact hlt j (by omega)
    · rw [getD_set_ne true (by omega)]; exact hge j (by omega) hjs
/-- the end of the walk in the order of the text. -/
theorem aLexQ_end {K : St → Prop} : ∀ (l : List Oper) (σ : St), aLexQ P N ops K l σ → ∃ σm, K σm ∧ (∀ t, (∀ o ∈ l, o.dst ≠ some t) → σm.t t = σ.t t) ∧ σm.b = σ.b ∧ aLexQ P N ops (fun σ' => σ' = σm) l σ
  | [], σ, h => ⟨σ, h, fun _ _ => rfl, rfl, rfl⟩
  | o :: l, σ, ⟨y, hy, hK⟩ => by
    obtain ⟨σm, h1, h2, h3, h4⟩ := aLexQ_end l _ hK
    refine ⟨σm, h1, fun t ht => ?_, h3.trans (St.put_b _ _ _), y, hy, h4⟩
    rw [h2 t (fun o' ho' => ht o' (List.mem_cons_of_mem _ ho'))]
    cases hd : o.dst with
    | none => rfl
    | some d =>
      have : t ≠ d := fun e => ht o (by simp) (by rw [hd, e])
      simp [St.put, this]
def Ef (θ : T → T) (β : (Nat → Option (List C)) → Nat → Option (List C)) (dst : Option Tmp) (Y : T) (σ : St) : St := (St.mk (fun i => θ (σ.t i)) (β σ.b)).put dst Y
theorem Ef_put {β : (Nat → Option (List C)) → Nat → Option (List C)} {dst : Option Tmp} {Y : T} (σ : St) (d : Option Tmp) (z : T) (h : d ≠ none → d ≠ dst) : Ef θ β dst Y (σ.put d z) = (Ef θ β dst Y σ).put d (θ z) := by
  cases d with
  | none => rfl
  | some d =>
    have h := h (by simp)
    cases dst with
    | none =>
      simp only [Ef, St.put]
      congr 1
      funext i
      by_cases e : i = d <;> simp [e]
    | some e' =>
      have hne : d ≠ e' := fun q => h (by rw [q])
      simp only [Ef, St.put]
      congr 1
      funext i
      by_cases e1 : i = e'
      · subst e1; simp [Ne.symm hne]
      · by_cases e : i = d <;> simp [e, e1, hne]
/-- an operation that does not wait for, nor is waited for by, the one with the effect. -/
def FlOk (P : Program) (N : Nat) (ops : Array Oper) (θ : T → T) (E : St → St) (o : Oper) (σm : St) : Prop := ∃ d, o.dst = some d ∧ θ (σm.t d) = σm.t d ∧ Yl P N ops o (E σm) (σm.t d)
theorem aLexM_of {om : Oper} {β : (Nat → Option (List C)) → Nat → Option (List C)} {Y : T} {σm : St} (hS : SoundP P N ops om (Ef θ β om.dst Y) σm) (hK : K (Ef θ β om.dst Y σm))
    (hfl : ∀ i o, ops[i]? = some o → i < m → ancB ops m ops.size i = true ∨ FlOk P N ops θ (Ef θ β om.dst Y) o σm)
    (hd1 : ∀ i o, ops[i]? = some o → i < m → ∀ j oj, ops[j]? = some oj → i ≤ j → j ≤ m → ∀ d, oj.dst = some d → d ∉ o.looksAt ops)
    (hd2 : ∀ i o, ops[i]? = some o → i < m → ∀ j oj, ops[j]? = some oj → i < j → j < m → o.dst ≠ none → oj.dst ≠ o.dst) (hom : ops[m]? = some om) :
    ∀ (l : List Oper) (k : Nat) (σ : St), k + l.length = m → (∀ j, j < l.length → l[j]? = ops[k + j]?) → aLexQ P N ops (fun σ' => σ' = σm) l σ → aLexM P N ops m om θ (Ef θ β om.dst Y) K k l σ
  | [], k, σ, hk, hl, h => by subst h; exact ⟨hS, hK⟩
  | o :: l, k, σ, hk, hl, ⟨y, hy, hK'⟩ => by
    have h0 : ops[k]? = some o := by have := hl 0 (by simp); simpa using this.symm
    have hkm : k < m := by simp at hk; omega
    obtain ⟨σ2, rfl, h2, h3, -⟩ := aLexQ_end l _ hK'
    have hmem : ∀ o' ∈ l, ∃ j, ops[j]? = some o' ∧ k < j ∧ j < m := fun o' ho' => by
      obtain ⟨j, hj⟩ := List.mem_iff_getElem?.1 ho'
      have hjl := (List.getElem?_eq_some_iff.1 hj).1
      refine ⟨k + 1 + j, ?_, by omega, by simp at hk; omega⟩
      have := hl (j + 1) (by simp; omega)
      rw [show k + 1 + j = k + (j + 1) by omega, ← this]
      simpa using hj
    refine ⟨y, hy, ?_, aLexM_of hS hK hfl hd1 hd2 hom l (k + 1) _ (by simp at hk; omega) (fun j hj => by have := hl (j + 1) (by simp; omega); simpa [Nat.add_assoc, Nat.add_comm 1 j] using this) hK'⟩
    rcases hfl k o h0 hkm with q | ⟨d, q1, q2, q3⟩
    · exact .inl q
    · right
      have hy2 : σ2.t d = y := by
        rw [h2 d (fun o' ho' e => by
          obtain ⟨j, hj1, hj2, hj3⟩ := hmem o' ho'
          exact hd2 k o h0 hkm j o' hj1 hj2 hj3 (by rw [q1]; simp) (by rw [e, q1]))]
        rw [q1]; simp [St.put]
      rw [hy2] at q2 q3
      refine ⟨q2, fun σ' e1 e2 => q3 σ' (fun t ht => (e1 t ht).trans ?_) (e2.trans ?_)⟩
      · have hto : o.dst ≠ some t := fun e => hd1 k o h0 hkm k o h0 (Nat.le_refl _) (by omega) t e ht
        have htm : om.dst ≠ some t := fun e => hd1 k o h0 hkm m om hom (by omega) (Nat.le_refl _) t e ht
        have htt : σ2.t t = σ.t t := by
          rw [h2 t (fun o' ho' e => by
            obtain ⟨j, hj1, hj2, hj3⟩ := hmem o' ho'
            exact hd1 k o h0 hkm j o' hj1 (by omega) (by omega) t e ht)]
          rw [q1]
          have : t ≠ d := fun e => hto (by rw [q1, e])
          simp [St.put, this]
        have key : ∀ τ : St, (Ef θ β om.dst Y τ).t t = θ (τ.t t) := fun τ => by
          unfold Ef
          cases hd : om.dst with
          | none => rfl
          | some e' =>
            have : t ≠ e' := fun e => htm (by rw [hd, e])
            simp [St.put, this]
        rw [key, key, htt]
      · have key : ∀ τ : St, (Ef θ β om.dst Y τ).b = β τ.b := fun τ => by unfold Ef; rw [St.put_b]
        rw [key, key, h3, St.put_b]
/-- the tail, in order. -/
theorem wpAny_tail {Q : Exit → Act → World → Prop} (hb : ∀ i o, ops[i]? = some o → ∀ e ∈ o.after, Region.binds .any e = true → e.on < i) :
    ∀ (l : List Oper) (k : Nat) (listed : Array Bool) (a : Act) (w : World), k + l.length = ops.size → (∀ j, j < l.length → l[j]? = ops[k + j]?) → (∀ j, k < j → j < ops.size → bnd ops j (j - 1) = true) → listed.size = ops.size →
      (∀ j, j < k → listed.getD j true = true) → (∀ j, k ≤ j → j < ops.size → listed.getD j true = false) → wpList P ops Q l a w → wpAny P .any ops Q l.length listed a w
  | [], k, listed, a, w, hk, hl, ht, hsz, hlt, hge, h => by
    refine ⟨?_, h⟩
    cases hr : Region.ready .any ops listed with
    | nil => rfl
    | cons i r =>
      have hi : i ∈ Region.ready .any ops listed := by rw [hr]; simp
      obtain ⟨hiu, oi, hoi, -⟩ := mem_ready.1 hi
      have := (Array.getElem?_eq_some_iff.1 hoi).1
      simp at hk
      rw [hlt i (by omega)] at hiu
      cases hiu
  | o :: l, k, listed, a, w, hk, hl, ht, hsz, hlt, hge, h => by
    have h0 : ops[k]? = some o := by have := hl 0 (by simp); simpa using this.symm
    have hklt : k < ops.size := (Array.getElem?_eq_some_iff.1 h0).1
    have hr : k ∈ Region.ready .any ops listed := mem_ready.2 ⟨hge k (Nat.le_refl _) hklt, o, h0, fun e he hb' => by
      have h1 := hb k o h0 e he hb'
      have h2 := hlt e.on h1
      have : e.on < listed.size := by omega
      simpa [this] using h2⟩
    have ih := wpAny_tail (Q := Q) hb l (k + 1) (listed.setIfInBounds k true)
    have ih' : ∀ a w, wpList P ops Q l a w → wpAny P .any ops Q l.length (listed.setIfInBounds k true) a w := fun a w => ih a w (by simp at hk; omega) (fun j hj => by have := hl (j + 1) (by simp; omega); simpa [Nat.add_assoc, Nat.add_comm 1 j] using this) (fun j hj => ht j (by omega)) (by simpa using hsz) (fun j hj => by
      by_cases e : k = j
      · subst e
        have : k < listed.size := by omega
        simp [this]
      · rw [getD_set_ne true e]; exact hlt j (by omega)) (fun j hj hjs => by rw [getD_set_ne true (by omega)]; exact hge j (by omega) hjs)
    refine ⟨fun q => (by rw [q] at hr; cases hr), fun i hi => ?_⟩
    obtain ⟨hiu, oi, hoi, hall⟩ := mem_ready.1 hi
    have hik : i = k := by
      rcases Nat.lt_trichotomy i k with q | q | q
      · rw [hlt i q] at hiu; cases hiu
      · exact q
      · exfalso
        have hilt : i < ops.size := (Array.getElem?_eq_some_iff.1 hoi).1
        obtain ⟨o', e, ho', he, hb', hon⟩ := bnd_spec (ht i q hilt)
        rw [hoi] at ho'; injection ho' with ho'; subst ho'
        have h1 := hall e he hb'
        have h2 := hge (i - 1) (by omega) (by omega)
        have h3 : i - 1 < listed.size := by omega
        rw [hon] at h1
        simp [h3] at h1 h2; rw [h2] at h1; cases h1
    subst hik
    unfold wpOp
    simp only [h0]
    unfold wpList at h
    split
    · rename_i hw
      rw [if_pos hw] at h
      exact h.imp (Oper.wp_mono ih') id
    · rename_i hw
      rw [if_neg hw] at h
      exact ih' _ _ h
theorem wpAny_of_aAnyM {x : Cx} (hx : x.P = P) (hN : x.N = N) {Q : Exit → Act → World → Prop} {n : Nat} (hm : m < ops.size)
    (hQ : ∀ σ' g' a' w' (listed : Array Bool), listed.size = ops.size → (∀ j, j < m + 1 → listed.getD j true = true) → (∀ j, m + 1 ≤ j → j < ops.size → listed.getD j true = false) → Rel x g' σ' a' w' → K σ' → wpAny P .any ops Q n listed a' w') :
    ∀ (fuel : Nat) (listed : Array Bool) (σ : St) (g : Gh) (a : Act) (w : World), listed.size = ops.size → (∀ j, m + 1 ≤ j → j < ops.size → listed.getD j true = false) → Rel x g σ a w → aAnyM P N ops m E K fuel listed σ → wpAny P .any ops Q (n + fuel) listed a w
  | 0, listed, σ, g, a, w, hsz, hge, hr, h => hQ σ g a w listed hsz (fun j hj => h.1 j (by omega)) hge hr h.2
  | fuel + 1, listed, σ, g, a, w, hsz, hge, hr, h => by
    refine ⟨fun q => absurd q h.1, fun i hi => ?_⟩
    obtain ⟨o, ho, him, hk⟩ := h.2 i hi
    have hge' : ∀ j, m + 1 ≤ j → j < ops.size → (listed.setIfInBounds i true).getD j true = false := fun j hj hjs => by rw [getD_set_ne true (by omega)]; exact hge j hj hjs
    have ih : ∀ σ' g' a' w', Rel x g' σ' a' w' → aAnyM P N ops m E K fuel (listed.setIfInBounds i true) σ' → wpAny P .any ops Q (n + fuel) (listed.setIfInBounds i true) a' w' := fun σ' g' a' w' hr' h' => wpAny_of_aAnyM hx hN hm hQ fuel _ σ' g' a' w' (by simpa using hsz) hge' hr' h'
    unfold wpOp
    simp only [ho]
    rcases hk with ⟨-, y, hy, hK⟩ | ⟨-, hS, hK⟩
    · rcases hy σ (fun _ _ => rfl) rfl x g a w hx hN hr with ⟨hw, h1⟩ | ⟨hw, h1⟩
      · rw [if_pos hw]
        exact .inl (h1 _ _ fun g' a' w' hr' => ih _ g' a' w' hr' hK)
      · rw [if_neg (by rw [hw]; simp)]
        exact ih _ g _ w h1 hK
    · obtain ⟨hw, h1⟩ := hS σ (fun _ _ => rfl) rfl x g a w hx hN hr
      rw [if_pos hw]
      exact .inl (h1 _ _ fun g' a' w' hr' => ih _ g' a' w' hr' hK)
end
/-- operations with an effect that do not look at what floats. -/
def pivB : Op → Bool
  | .alloc _ => true
  | .box _ _ => true
  | .makeSlice _ _ _ => true
  | .call ⟨.builtin .append, _, _⟩ => true
  | _ => false
theorem fx_of {P : Program} {σ : St} {dst : Option Tmp} {op : Op} {ob : Prop} {y : T} (F : St → St) (hF : ∃ (θ : T → T) (β : (Nat → Option (List C)) → Nat → Option (List C)), ∀ τ : St, F τ = ⟨fun i => θ (τ.t i), β τ.b⟩)
    (h : ∀ σ1 : St, (∀ z ∈ op.operands, ev σ1 z = ev σ z) → aop2 P σ1 dst op = some (ob, y, F σ1)) :
    ∃ (θ : T → T) (β : (Nat → Option (List C)) → Nat → Option (List C)), F σ = ⟨fun i => θ (σ.t i), β σ.b⟩ ∧
      ∀ σ1 : St, σ1.b = σ.b → (∀ z ∈ op.operands, ev σ1 z = ev σ z) → aop2 P σ1 dst op = some (ob, y, ⟨fun i => θ (σ1.t i), β σ1.b⟩) := by
  obtain ⟨θ, β, hf⟩ := hF
  exact ⟨θ, β, hf σ, fun σ1 _ hv => by rw [h σ1 hv, hf]⟩
theorem fx_sc (p q : Nat → Bool) : ∃ (θ : T → T) (β : (Nat → Option (List C)) → Nat → Option (List C)), ∀ τ : St, τ.sc p q = ⟨fun i => θ (τ.t i), β τ.b⟩ :=
  ⟨scT p q, fun b i => if q i = true then (b i).map (·.map (scC p)) else none, fun _ => rfl⟩
theorem fx_set (p q : Nat → Bool) (d : Nat) (row : List C) : ∃ (θ : T → T) (β : (Nat → Option (List C)) → Nat → Option (List C)), ∀ τ : St, (τ.sc p q).setB d row = ⟨fun i => θ (τ.t i), β τ.b⟩ :=
  ⟨scT p q, fun b i => if i = d then some row else if q i = true then (b i).map (·.map (scC p)) else none, fun _ => rfl⟩
theorem aop2_fx {P : Program} {σ σ' : St} {dst : Option Tmp} {op : Op} {ob : Prop} {y : T} (hp : pivB op = true) (h : aop2 P σ dst op = some (ob, y, σ')) :
    ∃ (θ : T → T) (β : (Nat → Option (List C)) → Nat → Option (List C)), σ' = ⟨fun i => θ (σ.t i), β σ.b⟩ ∧
      ∀ σ1 : St, σ1.b = σ.b → (∀ z ∈ op.operands, ev σ1 z = ev σ z) → aop2 P σ1 dst op = some (ob, y, ⟨fun i => θ (σ1.t i), β σ1.b⟩) := by
  unfold pivB at hp
  split at hp
  · rename_i t
    simp only [aop2] at h
    split at h
    · rename_i hz
      injection h with h; injection h with e1 e2; injection e2 with e2 e3
      subst e1 e2 e3
      exact fx_of (fun τ => (τ.sc _ _).setB _ _) (fx_set _ _ _ _) fun σ1 hv => by simp only [aop2, hz]
    · cases h
  · rename_i t z
    simp only [aop2] at h
    split at h
    · rename_i hz
      injection h with h; injection h with e1 e2; injection e2 with e2 e3
      subst e1 e2 e3
      exact fx_of (fun τ => (τ.sc _ _).setB _ _) (fx_set _ _ _ _) fun σ1 hv => by
        have e := hv z (by simp [Op.operands])
        simp only [aop2, e, hz]
    · cases h
  · rename_i t l c
    simp only [aop2] at h
    split at h
    · rename_i ht hl hc
      injection h with h; injection h with e1 e2; injection e2 with e2 e3
      subst e1 e2 e3
      exact fx_of (fun τ => (τ.sc _ _).setB _ _) (fx_set _ _ _ _) fun σ1 hv => by
        have e1 := hv l (by simp [Op.operands])
        have e2 := hv c (by simp [Op.operands])
        simp only [aop2, ht, e1, e2, hl, hc]
    · cases h
  · rename_i args ts
    simp only [aop2] at h
    split at h
    · rename_i d s0 x t t' ha hts
      have hs : ∀ σ1 : St, (∀ z ∈ (Op.call ⟨.builtin .append, args, ts⟩).operands, ev σ1 z = ev σ z) → ev σ1 s0 = ev σ s0 ∧ ev σ1 x = ev σ x := fun σ1 hv =>
        ⟨hv s0 (by simp [Op.operands, Call.operands, ← Array.mem_toList_iff, ha]), hv x (by simp [Op.operands, Call.operands, ← Array.mem_toList_iff, ha])⟩
      split at h
      · rename_i hk hbd
        split at h
        · rename_i hrw
          injection h with h; injection h with e1 e2; injection e2 with e2 e3
          subst e1 e2 e3
          refine fx_of (fun τ => τ.sc _ _) (fx_sc _ _) fun σ1 hv => ?_
          obtain ⟨v1, v2⟩ := hs σ1 hv
          simp only [aop2, ha, hts, v1, v2, hk, hbd, hrw]
        · cases h
      · rename_i hk hbd
        split at h
        · rename_i hrw
          injection h with h; injection h with e1 e2; injection e2 with e2 e3
          subst e1 e2 e3
          refine fx_of (fun τ => τ.sc _ _) (fx_sc _ _) fun σ1 hv => ?_
          obtain ⟨v1, v2⟩ := hs σ1 hv
          simp only [aop2, ha, hts, v1, v2, hk, hbd, hrw]
        · cases h
      · cases h
    · cases h
  · cases hp
/-- the operations that float see the same before and behind the effect. -/
def aFl (P : Program) (σ τ : St) : List Oper → Prop
  | [] => True
  | o :: r => (match o.dst with
    | some d => match aopP P τ o.op with
      | some (ob, z) => τ.t d = σ.t d ∧ ob ∧ z = σ.t d
      | none => False
    | none => False) ∧ aFl P σ τ r
def aPiv (P : Program) (K : St → Prop) (fl : List Oper) (p : Oper) (σ : St) : Prop := match aop2 P σ p.dst p.op with
  | some (ob, y, σ') => ob ∧ aFl P σ (σ'.put p.dst y) fl ∧ K (σ'.put p.dst y)
  | none => False
def aqsM (P : Program) (ops : Array Oper) (fl : Nat → Bool) (K : St → Prop) : Nat → List Oper → List Oper → St → Prop
  | _, _, [], _ => False
  | k, acc, o :: rest, σ => match pivB o.op with
    | true => aPiv P (aops P ops K rest) acc o σ
    | false => aqst P ops o (aqsM P ops fl K (k + 1) (if fl k = true then acc ++ [o] else acc) rest) σ
theorem aqst_mono {P : Program} {ops : Array Oper} {o : Oper} {K K' : St → Prop} {σ : St} (hk : ∀ σ, K σ → K' σ) (h : aqst P ops o K σ) : aqst P ops o K' σ := by
  unfold aqst at *
  split
  · rename_i hg
    simp only [hg] at h
    split
    · rename_i hq; simp only [hq] at h; exact ⟨h.1, hk _ h.2⟩
    · rename_i hq
      simp only [hq] at h
      split
      · rename_i hq2; simp only [hq2] at h; exact ⟨h.1, hk _ h.2⟩
      · rename_i hq2
        simp only [hq2] at h
        obtain ⟨d, ob, f, ar, r, h1, h2, h3, h4⟩ := h
        exact ⟨d, ob, f, ar, r, h1, h2, h3, hk _ h4⟩
  · rename_i hg
    simp only [hg] at h
    split
    · rename_i hq; simp only [hq] at h
    · rename_i hq
      simp only [hq] at h
      split
      · rename_i hq1; simp only [hq1] at h; exact ⟨h.1, hk _ h.2⟩
      · rename_i hq1
        simp only [hq1] at h
        split
        · rename_i hq2; simp only [hq2] at h; exact ⟨h.1, hk _ h.2⟩
        · rename_i hq2
          simp only [hq2] at h
          obtain ⟨d, ob, f, ar, r, h1, h2, h3, h4⟩ := h
          exact ⟨d, ob, f, ar, r, h1, h2, h3, hk _ h4⟩
theorem aqst_some {P : Program} {ops : Array Oper} {o : Oper} {K : St → Prop} {σ : St} (h : aqst P ops o K σ) : ∃ σ', K σ' := by
  unfold aqst at h
  split at h
  · split at h
    · exact ⟨_, h.2⟩
    · split at h
      · exact ⟨_, h.2⟩
      · obtain ⟨d, ob, f, ar, r, h1, h2, h3, h4⟩ := h
        exact ⟨_, h4⟩
  · split at h
    · exact h.elim
    · split at h
      · exact ⟨_, h.2⟩
      · split at h
        · exact ⟨_, h.2⟩
        · obtain ⟨d, ob, f, ar, r, h1, h2, h3, h4⟩ := h
          exact ⟨_, h4⟩
theorem aqsM_shape {P : Program} {ops : Array Oper} {fl : Nat → Bool} {K : St → Prop} : ∀ (rest : List Oper) (k : Nat) (acc : List Oper), (∃ σ, aqsM P ops fl K k acc rest σ) →
    ∃ m p flo, rest[m]? = some p ∧ pivB p.op = true ∧ (∀ j o, j < m → rest[j]? = some o → pivB o.op = false) ∧ (∀ o ∈ acc, o ∈ flo) ∧ (∀ j o, j < m → rest[j]? = some o → fl (k + j) = true → o ∈ flo) ∧
      ∀ σ, aqsM P ops fl K k acc rest σ → aqs P ops (aPiv P (aops P ops K (rest.drop (m + 1))) flo p) (rest.take m) σ
  | [], _, _, ⟨_, h⟩ => h.elim
  | o :: rest, k, acc, ⟨σ, h⟩ => by
    unfold aqsM at h
    split at h
    · rename_i hp
      exact ⟨0, o, acc, rfl, hp, fun j o hj => by omega, fun o ho => ho, fun j o hj => by omega, fun σ h => by unfold aqsM at h; rw [hp] at h; exact h⟩
    · rename_i hp
      obtain ⟨m, p, flo, h1, h2, h3, h4, h5, h6⟩ := aqsM_shape rest (k + 1) (if fl k = true then acc ++ [o] else acc) (aqst_some h)
      refine ⟨m + 1, p, flo, by simpa using h1, h2, fun j o' hj hj' => ?_, fun o' ho' => h4 o' (by split <;> simp [ho']), fun j o' hj hj' hf => ?_, fun σ h => ?_⟩
      · cases j with
        | zero => simp at hj'; subst hj'; exact hp
        | succ j => exact h3 j o' (by omega) (by simpa using hj')
      · cases j with
        | zero => simp at hj'; subst hj'; exact h4 _ (by rw [if_pos (by simpa using hf)]; simp)
        | succ j => exact h5 j o' (by omega) (by simpa using hj') (by rw [show k + 1 + j = k + (j + 1) by omega]; exact hf)
      · unfold aqsM at h
        rw [hp] at h
        exact aqst_mono h6 h
/-- the region's form, looked at once. -/
def drawB (ops : Array Oper) (m : Nat) (fl : Nat → Bool) : Bool :=
  (match ops[m]? with | some p => pivB p.op && p.guard.isNone | none => false) &&
  ((List.range ops.size).all fun i => match ops[i]? with | some o => o.after.all fun e => !Region.binds .any e || decide (e.on < i) | none => true) &&
  ((List.range ops.size).all fun j => decide (j ≤ m) || (((List.range (m + 1)).all fun i => bnd ops j i) && (j == m + 1 || bnd ops j (j - 1)))) &&
  ((List.range m).all fun i => (List.range (m + 1)).all fun j => decide (j ≤ i) || bnd ops j i || match ops[i]?, ops[j]? with | some a, some b => a.apart ops b | _, _ => true) &&
  ((List.range m).all fun i => (List.range (m + 1)).all fun j => decide (j < i) || match ops[i]?, ops[j]? with
    | some a, some b => (match b.dst with | some d => !(a.looksAt ops).contains d && (j == i || a.dst != some d) | none => true)
    | _, _ => true) &&
  ((List.range m).all fun i => (match ops[i]? with | some o => !pivB o.op | none => true) && (ancB ops m ops.size i || (fl i && match ops[i]? with | some o => o.guard.isNone | none => true)))
theorem all_range {n : Nat} {p : Nat → Bool} (h : (List.range n).all p = true) {i : Nat} (hi : i < n) : p i = true := List.all_eq_true.1 h i (List.mem_range.2 hi)
theorem AC_drawM {P : Program} {N : Nat} {K : Exit → St → Prop} {id : Nat} {l : List Oper} {σ : St} (m : Nat) (fl : Nat → Bool) (hm : P.follows .mixedOrders = true) (hB : drawB l.toArray m fl = true) (hc : chk N l.toArray = true)
    (h : aqsM P l.toArray fl (K .normal) 0 [] l σ) : AC P N (.region id l.toArray true) K σ := by
  intro x g a w Q hx hN hr hQ
  unfold drawB at hB
  simp only [Bool.and_eq_true] at hB
  obtain ⟨⟨⟨⟨⟨b1, b2⟩, b3⟩, b4⟩, b5⟩, b6⟩ := hB
  obtain ⟨m', p, flo, h1, h2, h3, -, h5, h60⟩ := aqsM_shape l 0 [] ⟨σ, h⟩
  have h6 := h60 σ h
  clear h60
  have hget : ∀ j : Nat, l.toArray[j]? = l[j]? := fun j => by simp
  have hsz : l.toArray.size = l.length := by simp
  obtain ⟨p0, hp0, hp1⟩ : ∃ p0, l[m]? = some p0 ∧ pivB p0.op = true ∧ p0.guard = none := by
    split at b1
    · rename_i q hq
      simp only [Bool.and_eq_true, Option.isNone_iff_eq_none] at b1
      exact ⟨q, by rw [← hget]; exact hq, b1⟩
    · cases b1
  obtain rfl : m' = m := by
    rcases Nat.lt_trichotomy m' m with q | q | q
    · have hb := all_range b6 q
      simp only [hget, h1, Bool.and_eq_true, Bool.not_eq_true'] at hb
      rw [h2] at hb; exact absurd hb.1 (by simp)
    · exact q
    · have := h3 m p0 q hp0
      rw [hp1.1] at this; cases this
  rw [h1] at hp0; injection hp0 with hp0; subst hp0
  have hml : m' < l.length := (List.getElem?_eq_some_iff.1 h1).1
  have hom : l.toArray[m']? = some p := by rw [hget]; exact h1
  have hmsz : m' < l.toArray.size := by rw [hsz]; exact hml
  have hb : ∀ i o, l.toArray[i]? = some o → ∀ e ∈ o.after, Region.binds .any e = true → e.on < i := fun i o ho e he hbd => by
    have hi := (Array.getElem?_eq_some_iff.1 ho).1
    have := all_range b2 hi
    simp only [ho] at this
    have := Array.all_eq_true'.1 this e he
    simpa [hbd] using this
  have htl : ∀ j, m' < j → j < l.toArray.size → ∀ i, i ≤ m' → bnd l.toArray j i = true := fun j hj hjs i hi => by
    have := all_range b3 hjs
    simp only [Bool.or_eq_true, decide_eq_true_eq, Bool.and_eq_true] at this
    rcases this with q | q
    · omega
    · exact all_range q.1 (by omega)
  have htc : ∀ j, m' + 1 < j → j < l.toArray.size → bnd l.toArray j (j - 1) = true := fun j hj hjs => by
    have := all_range b3 hjs
    simp only [Bool.or_eq_true, decide_eq_true_eq, Bool.and_eq_true, beq_iff_eq] at this
    rcases this with q | ⟨-, q | q⟩
    · omega
    · omega
    · exact q
  have hpre : ∀ i oi, l.toArray[i]? = some oi → i < m' → Pre l.toArray m' i oi := fun i oi hi him =>
    ⟨him, fun j hj hjs => htl j hj hjs i (by omega), fun j hj hjs => htl j hj hjs m' (Nat.le_refl _), fun j oj hij hjm hoj hnb => by
      have := all_range (all_range b4 him) (i := j) (by omega)
      simp only [hi, hoj, hnb, Bool.or_eq_true, decide_eq_true_eq, Bool.or_false] at this
      rcases this with q | q
      · omega
      · exact q⟩
  have hd5 : ∀ i o, l.toArray[i]? = some o → i < m' → ∀ j oj, l.toArray[j]? = some oj → i ≤ j → j ≤ m' → ∀ d, oj.dst = some d → d ∉ o.looksAt l.toArray ∧ (j = i ∨ o.dst ≠ some d) := fun i o hi him j oj hoj hij hjm d hd => by
    have := all_range (all_range b5 him) (i := j) (by omega)
    simp only [hi, hoj, hd, Bool.or_eq_true, decide_eq_true_eq, Bool.and_eq_true, Bool.not_eq_true', beq_iff_eq, bne_iff_ne, ne_eq] at this
    rcases this with q | q
    · omega
    · refine ⟨fun hmem => ?_, q.2⟩
      have := q.1
      simp [hmem] at this
  have hd1 : ∀ i o, l.toArray[i]? = some o → i < m' → ∀ j oj, l.toArray[j]? = some oj → i ≤ j → j ≤ m' → ∀ d, oj.dst = some d → d ∉ o.looksAt l.toArray := fun i o hi him j oj hoj hij hjm d hd => (hd5 i o hi him j oj hoj hij hjm d hd).1
  have hd2 : ∀ i o, l.toArray[i]? = some o → i < m' → ∀ j oj, l.toArray[j]? = some oj → i < j → j < m' → o.dst ≠ none → oj.dst ≠ o.dst := fun i o hi him j oj hoj hij hjm hne e => by
    cases hd : o.dst with
    | none => exact hne hd
    | some d =>
      rcases (hd5 i o hi him j oj hoj (by omega) (by omega) d (by rw [e, hd])).2 with q | q
      · omega
      · exact q hd
  have hdp : ∀ k ok, l.toArray[k]? = some ok → k < m' → ok.dst ≠ none → ok.dst ≠ p.dst := fun k ok hk hkm hne e => by
    cases hd : ok.dst with
    | none => exact hne hd
    | some d =>
      rcases (hd5 k ok hk hkm m' p hom (by omega) (Nat.le_refl _) d (by rw [← e, hd])).2 with q | q
      · omega
      · exact q hd
  have htake : ∀ j, j < (l.take m').length → (l.take m')[j]? = l.toArray[0 + j]? := fun j hj => by
    rw [Nat.zero_add, hget, List.getElem?_take_of_lt (by simp at hj; omega)]
  have hlen : (l.take m').length = m' := by simp; omega
  have hlq := aLexQ_of_aqs hc (l.take m') (fun o ho => by
    obtain ⟨j, hj⟩ := List.mem_iff_getElem?.1 ho
    have hjl := (List.getElem?_eq_some_iff.1 hj).1
    exact ⟨j, by rw [← hj, htake j hjl, Nat.zero_add]⟩) σ h6
  obtain ⟨σm, hP, -, -, hlex⟩ := aLexQ_end _ _ hlq
  unfold aPiv at hP
  split at hP
  · rename_i ob y σ' hop
    obtain ⟨hob, hflo, hK⟩ := hP
    obtain ⟨θ, β, rfl, hcong⟩ := aop2_fx h2 hop
    have hdN : ∀ (o : Oper), (∃ i : Nat, l.toArray[i]? = some o) → ∀ d, o.dst = some d → d < N := fun o ⟨i, hi⟩ d q => (chk_spec hc hi q).1
    have hS : SoundP P N l.toArray p (Ef θ β p.dst y) σm := by
      intro σ1 e1 e2 x g a w hx hN hr
      refine ⟨by simp [Region.wanted, hp1.2], fun K Q hKK => ?_⟩
      have hop1 := hcong σ1 e2 (looks_op e1)
      subst hx
      obtain ⟨w', g', r0, r1⟩ := aop2_ok hop1 hob hr
      unfold Oper.wp
      rcases r1 with ⟨r, r1, r2⟩ | ⟨r1, r2⟩
      · rw [r1, Oper.upon_value]
        exact hKK _ _ _ (r0.put r2 p.dst (fun d q => by rw [hN]; exact hdN p ⟨m', hom⟩ d q))
      · rw [r1, Oper.upon_skip]
        exact hKK _ _ _ (r0.put (y := y) (v := undef) (by rw [r2]; trivial) p.dst (fun d q => by rw [hN]; exact hdN p ⟨m', hom⟩ d q))
    have hflok : ∀ o ∈ flo, o.guard = none → (∃ i : Nat, l.toArray[i]? = some o ∧ i < m') → FlOk P N l.toArray θ (Ef θ β p.dst y) o σm := by
      clear h5 h6 hlq
      induction flo with
      | nil => intro o ho; cases ho
      | cons o' r ih =>
        intro o ho hg hex
        simp only [aFl] at hflo
        rcases List.mem_cons.1 ho with rfl | ho
        · obtain ⟨q, -⟩ := hflo
          split at q
          · rename_i d hd
            split at q
            · rename_i ob' z hz
              obtain ⟨q1, q2, rfl⟩ := q
              obtain ⟨i, hi, him⟩ := hex
              have hne := hdp i o hi him (by rw [hd]; simp)
              refine ⟨d, hd, ?_, ?_⟩
              · have e : ((St.mk (fun i => θ (σm.t i)) (β σm.b)).put p.dst y).t d = θ (σm.t d) := by
                  cases hpd : p.dst with
                  | none => rfl
                  | some e' =>
                    have : d ≠ e' := fun e => hne (by rw [hd, hpd, e])
                    simp [St.put, this]
                rw [← e]; exact q1
              · obtain ⟨y', hy', hKy⟩ := aqst_yl (P := P) (N := N) hc (o := o) ⟨i, hi⟩ (K := fun τ => τ = ((Ef θ β p.dst y σm).put o.dst (σm.t d))) (σ := Ef θ β p.dst y σm) (by
                  unfold aqst
                  rw [hg]
                  simp only
                  rw [show aopP P (Ef θ β p.dst y σm) o.op = some (ob', σm.t d) from hz]
                  exact ⟨q2, rfl⟩)
                have : y' = σm.t d := by
                  have := congrArg (fun τ : St => τ.t d) hKy
                  simpa [St.put, hd] using this
                rw [← this]; exact hy'
            · exact q.elim
          · exact q.elim
        · exact ih hflo.2 o ho hg hex
    have hfl : ∀ i o, l.toArray[i]? = some o → i < m' → ancB l.toArray m' l.toArray.size i = true ∨ FlOk P N l.toArray θ (Ef θ β p.dst y) o σm := fun i o hi him => by
      have hb6 := all_range b6 him
      simp only [hi, Bool.and_eq_true, Bool.or_eq_true, Option.isNone_iff_eq_none] at hb6
      rcases hb6.2 with q | q
      · exact .inl q
      · exact .inr (hflok o (h5 i o him (by rw [← hget]; exact hi) (by simpa using q.1)) q.2 ⟨i, hi, him⟩)
    have hMl := aLexM_of (K := aops P l.toArray (K .normal) (l.drop (m' + 1))) hS hK hfl hd1 hd2 hom (l.take m') 0 σ (by rw [hlen]; omega) htake hlex
    have hA := aAnyM_lex hom hdp (fun σ d z q => Ef_put σ d z q) hpre hb (fun j hj hjs => htl j hj hjs m' (Nat.le_refl _)) (l.take m') 0 (Array.replicate l.toArray.size false) σ (by rw [hlen]; omega) htake (by simp) (fun j hj => by omega) (fun j _ hjs => by simp at hjs ⊢; simp [hjs]) hMl
    refine wp_region_any hm ?_
    have hfin := wpAny_of_aAnyM (E := Ef θ β p.dst y) (K := aops P l.toArray (K .normal) (l.drop (m' + 1))) (Q := Q) (n := (l.drop (m' + 1)).length) hx hN hmsz (fun σ' g' a' w' listed hs hl1 hl2 hr' hK' => by
      refine wpAny_tail hb (l.drop (m' + 1)) (m' + 1) listed a' w' (by rw [hsz]; simp; omega) (fun j hj => by rw [hget]; simp) (fun j hj hjs => htc j hj hjs) hs hl1 hl2 ?_
      subst hx hN
      exact aops_sound hc (fun σ' g' a' w' hr' hK => hQ _ _ _ _ _ hr' hK) _ (fun o ho d hd => by
        obtain ⟨j, hj⟩ := List.mem_iff_getElem?.1 ho
        rw [List.getElem?_drop] at hj
        exact chk_spec hc (j := m' + 1 + j) (o := o) (by rw [hget]; exact hj) hd) _ _ _ _ hr' hK') (m' + 1) (Array.replicate l.toArray.size false) σ g a w.drew (by simp) (fun j hj hjs => by simp at hjs ⊢; simp [hjs]) hr.drew (by rw [hlen] at hA; exact hA)
    have e : (l.drop (m' + 1)).length + (m' + 1) = l.toArray.size := by rw [hsz]; simp; omega
    rw [e] at hfin
    exact hfin
  · exact hP.elim
theorem AC_drawN {P : Program} {N : Nat} {K : Exit → St → Prop} {id : Nat} {l : List Oper} {σ : St} (fl : Nat → Bool) (hm : P.follows .mixedOrders = true) (hB : drawB l.toArray (l.findIdx fun o => pivB o.op) fl = true) (hc : chk N l.toArray = true)
    (h : aqsM P l.toArray fl (K .normal) 0 [] l σ) : AC P N (.region id l.toArray true) K σ := AC_drawM _ fl hm hB hc h
end Go.Proofs.Ytokjkmibnjfkaaa
