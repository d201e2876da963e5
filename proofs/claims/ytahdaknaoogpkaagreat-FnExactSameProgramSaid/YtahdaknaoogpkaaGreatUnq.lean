import Derived.Test.YtahdaknaoogpkaaGreatQuo
/- Unquoting: no program in sight. -/
namespace Go.Proofs.YtahdaknaoogpkaaGreat
set_option linter.unusedVariables false
open Go.RowKit

noncomputable def unqO (l : List UInt8) : Option (List UInt8) := open Classical in if h : ∃ t, quoL t = l then some h.choose else none
def UInv (l : List UInt8) (i : Nat) (out : List UInt8) : Prop := ∀ t, quoL t = l → ∃ j, j ≤ t.length ∧ i = (quoP t j).length ∧ out = t.take j
theorem quoL_split (t : List UInt8) (j : Nat) (h : j < t.length) : quoL t = quoP t j ++ (quoB t[j] ++ ((t.drop (j + 1)).flatMap quoB ++ [34])) := by
  have e : t = t.take j ++ t[j] :: t.drop (j + 1) := by rw [← List.drop_eq_getElem_cons h, List.take_append_drop]
  unfold quoL quoP
  conv => lhs; rw [e]
  rw [List.flatMap_append, List.flatMap_cons]
  simp [List.append_assoc]
theorem UInv.start (l : List UInt8) : UInv l 1 [] := fun t _ => ⟨0, Nat.zero_le _, by simp [quoP], by simp⟩
theorem UInv.done {l out : List UInt8} {i : Nat} (h : UInv l i out) (hi : l.length ≤ i + 1) : ∀ t, quoL t = l → out = t := by
  intro t ht
  obtain ⟨j, hj, e, eo⟩ := h t ht
  have hl : l.length = (quoP t t.length).length + 1 := by rw [← ht, ← quoP_end t t.length rfl, List.length_append]; rfl
  by_cases hlt : j < t.length
  · have := congrArg List.length (quoL_split t j hlt)
    rw [ht, List.length_append, List.length_append, List.length_append] at this
    have h1 : 1 ≤ (quoB t[j]).length := by unfold quoB; split; simp; split; simp; split <;> simp
    simp at this
    omega
  · rw [eo, List.take_of_length_le (by omega)]
theorem unqO_none {l out : List UInt8} (h : ∀ t, quoL t = l → out = t) (hq : quoL out ≠ l) : unqO l = none := by
  unfold unqO
  rw [dif_neg]
  rintro ⟨t, ht⟩
  exact hq (h t ht ▸ ht)
theorem unqO_some {l out : List UInt8} (h : ∀ t, quoL t = l → out = t) (hq : quoL out = l) : unqO l = some out := by
  unfold unqO
  have hx : ∃ t, quoL t = l := ⟨out, hq⟩
  rw [dif_pos hx]
  rw [h _ hx.choose_spec]
theorem unqO_short {l : List UInt8} (h : l.length < 2) : unqO l = none := by
  unfold unqO
  rw [dif_neg]
  rintro ⟨t, ht⟩
  rw [← ht] at h
  simp [quoL] at h
  omega
theorem unqO_spec {l t : List UInt8} (h : unqO l = some t) : quoL t = l := by
  unfold unqO at h
  split at h
  · rename_i hx; rw [← Option.some.inj h]; exact hx.choose_spec
  · cases h

theorem at_place {l : List UInt8} {i k : Nat} {t : List UInt8} {j : Nat} (ht : quoL t = l) (hj : j < t.length) (hi : i = (quoP t j).length) (hk : k < (quoB t[j]).length) : l[i + k]? = (quoB t[j])[k]? := by
  rw [← ht, quoL_split t j hj, hi, List.getElem?_append_right (by omega), List.getElem?_append_left (by omega)]
  congr 1; omega
theorem UInv.in_text {l out : List UInt8} {i : Nat} (h : UInv l i out) (hi : i + 1 < l.length) (t : List UInt8) (ht : quoL t = l) : ∃ j, ∃ hj : j < t.length, i = (quoP t j).length ∧ out = t.take j := by
  obtain ⟨j, hj, e, eo⟩ := h t ht
  have : j < t.length := by
    rcases Nat.lt_or_ge j t.length with h | h
    · exact h
    · exfalso
      have : j = t.length := by omega
      subst this
      have hl : l.length = (quoP t t.length).length + 1 := by rw [← ht, ← quoP_end t t.length rfl, List.length_append]; rfl
      omega
  exact ⟨j, this, e, eo⟩
theorem take_snoc' (t : List UInt8) (j : Nat) (h : j < t.length) : t.take (j + 1) = t.take j ++ [t[j]] := List.take_succ_eq_append_getElem h
theorem UInv.go {l out : List UInt8} {i n : Nat} {b : UInt8} (h : UInv l i out) (hi : i + 1 < l.length)
    (hs : ∀ (t : List UInt8) (j : Nat) (_hj : j < t.length), (∀ k, k < (quoB t[j]).length → l[i + k]? = (quoB t[j])[k]?) → (quoB t[j]).length = n ∧ t[j] = b) : UInv l (i + n) (out ++ [b]) := by
  intro t ht
  obtain ⟨j, hj, e, eo⟩ := h.in_text hi t ht
  obtain ⟨h1, h2⟩ := hs t j hj (fun k hk => at_place ht hj e hk)
  refine ⟨j + 1, hj, ?_, ?_⟩
  · rw [quoP_succ t j hj, List.length_append, h1, e]
  · rw [eo, take_snoc' t j hj, h2]
theorem quoB_cases (b : UInt8) : (quoB b = [92, 110] ∧ b = 10) ∨ (quoB b = [92, b] ∧ (b = 34 ∨ b = 92)) ∨ (quoB b = [b] ∧ b ≠ 92) ∨ quoB b = [92, 120, hexB (b.toNat / 16), hexB (b.toNat % 16)] := by
  by_cases h0 : b.toNat = 10
  · exact .inl ⟨quoB_n h0, by apply UInt8.toNat.inj; rw [h0]; rfl⟩
  · by_cases h1 : b.toNat = 34 ∨ b.toNat = 92
    · refine .inr (.inl ⟨quoB_e h0 h1, h1.imp (fun h => ?_) (fun h => ?_)⟩) <;> (apply UInt8.toNat.inj; rw [h]; rfl)
    · by_cases h2 : 32 ≤ b.toNat ∧ b.toNat ≤ 126
      · refine .inr (.inr (.inl ⟨quoB_p h0 h1 h2, fun e => h1 (.inr (by rw [e]; rfl))⟩))
      · exact .inr (.inr (.inr (quoB_x h0 h1 h2)))
theorem UInv.plain {l out : List UInt8} {i : Nat} {b : UInt8} (h : UInv l i out) (hi : i + 1 < l.length) (hb : l[i]? = some b) (hne : b ≠ 92) : UInv l (i + 1) (out ++ [b]) :=
  h.go hi fun t j hj ha => by
    have h0 := ha 0
    rcases quoB_cases t[j] with ⟨e, _⟩ | ⟨e, _⟩ | ⟨e, _⟩ | e <;> rw [e] at h0 ⊢ <;> simp [hb] at h0 <;> first | exact absurd h0 hne | exact ⟨rfl, h0.symm⟩
theorem UInv.newline {l out : List UInt8} {i : Nat} (h : UInv l i out) (hi : i + 1 < l.length) (hb : l[i]? = some 92) (hc : l[i + 1]? = some 110) : UInv l (i + 2) (out ++ [10]) :=
  h.go hi fun t j hj ha => by
    have h0 := ha 0; have h1 := ha 1
    rcases quoB_cases t[j] with ⟨e, e'⟩ | ⟨e, e'⟩ | ⟨e, e'⟩ | e <;> rw [e] at h0 h1 ⊢ <;> simp [hb, hc] at h0 h1
    · exact ⟨rfl, e'⟩
    · rcases e' with e' | e' <;> rw [e'] at h1 <;> simp at h1
    · exact absurd h0.symm e'
theorem UInv.escaped {l out : List UInt8} {i : Nat} {c : UInt8} (h : UInv l i out) (hi : i + 1 < l.length) (hb : l[i]? = some 92) (hc : l[i + 1]? = some c) (h1 : c ≠ 110) (h2 : c ≠ 120 ∨ l.length ≤ i + 4) : UInv l (i + 2) (out ++ [c]) := by
  intro t ht
  obtain ⟨j, hj, e, eo⟩ := h.in_text hi t ht
  have ha := fun k hk => at_place (k := k) ht hj e hk
  have h0 := ha 0; have h1' := ha 1
  have hlen := congrArg List.length (quoL_split t j hj)
  rw [ht] at hlen
  have key : (quoB t[j]).length = 2 ∧ t[j] = c := by
    rcases quoB_cases t[j] with ⟨q, e'⟩ | ⟨q, e'⟩ | ⟨q, e'⟩ | q <;> rw [q] at h0 h1' hlen ⊢ <;> simp [hb, hc] at h0 h1'
    · exact absurd h1' h1
    · exact ⟨rfl, h1'.symm⟩
    · exact absurd h0.symm e'
    · exfalso
      rcases h2 with h2 | h2
      · exact h2 h1'
      · simp at hlen; omega
  refine ⟨j + 1, hj, ?_, ?_⟩
  · rw [quoP_succ t j hj, List.length_append, key.1, e]
  · rw [eo, take_snoc' t j hj, key.2]
theorem UInv.hex {l out : List UInt8} {i : Nat} {c d b : UInt8} (h : UInv l i out) (hi : i + 1 < l.length) (hb : l[i]? = some 92) (hx : l[i + 1]? = some 120) (hc : l[i + 2]? = some c) (hd : l[i + 3]? = some d)
    (hv : ∀ x : UInt8, c = hexB (x.toNat / 16) → d = hexB (x.toNat % 16) → x = b) : UInv l (i + 4) (out ++ [b]) :=
  h.go hi fun t j hj ha => by
    have h0 := ha 0; have h1 := ha 1; have h2 := ha 2; have h3 := ha 3
    rcases quoB_cases t[j] with ⟨e, e'⟩ | ⟨e, e'⟩ | ⟨e, e'⟩ | e <;> rw [e] at h0 h1 h2 h3 ⊢ <;> simp [hb, hx, hc, hd] at h0 h1 h2 h3
    · rcases e' with e' | e' <;> rw [e'] at h1 <;> simp at h1
    · exact absurd h0.symm e'
    · exact ⟨rfl, hv _ h2 h3⟩
theorem UInv.last {l out : List UInt8} {i n : Nat} {c : UInt8} (h : UInv l i out) (hi : i + 1 < l.length) (hb : l[i]? = some 92) (h2 : l.length ≤ i + 2) : UInv l n (out ++ [c]) := by
  intro t ht
  exfalso
  obtain ⟨j, hj, e, eo⟩ := h.in_text hi t ht
  have ha := fun k hk => at_place (k := k) ht hj e hk
  have h0 := ha 0
  have hlen := congrArg List.length (quoL_split t j hj)
  rw [ht] at hlen
  rcases quoB_cases t[j] with ⟨q, e'⟩ | ⟨q, e'⟩ | ⟨q, e'⟩ | q <;> rw [q] at h0 hlen <;> simp [hb] at h0 hlen
  · omega
  · omega
  · exact absurd h0.symm e'
  · omega
end Go.Proofs.YtahdaknaoogpkaaGreat
