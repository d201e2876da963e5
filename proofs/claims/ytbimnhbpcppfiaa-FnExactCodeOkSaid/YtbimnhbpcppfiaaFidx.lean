/- The first place at which a test holds: plain. -/
import Derived.WalkKit
namespace Go.Proofs.Ytbimnhbpcppfiaa
set_option linter.unusedVariables false
/-- the first place at which p holds, or -1. -/
def fidx {α : Type} (p : α → Bool) : List α → Int
  | [] => -1
  | x :: l => if p x then 0 else (if fidx p l < 0 then -1 else fidx p l + 1)
theorem fidx_ge {α : Type} (p : α → Bool) : ∀ l : List α, -1 ≤ fidx p l ∧ fidx p l < l.length
  | [] => by simp [fidx]
  | x :: l => by
    have := fidx_ge p l
    unfold fidx
    simp only [List.length_cons]
    split
    · omega
    · split <;> omega
theorem fidx_at {α : Type} (p : α → Bool) : ∀ (l : List α) (k : Nat) (h : k < l.length), p l[k] = true → (∀ j (hj : j < l.length), j < k → p l[j] = false) → fidx p l = k
  | [], k, h, _, _ => by simp at h
  | x :: l, 0, h, e, _ => by unfold fidx; rw [if_pos (by simpa using e)]; rfl
  | x :: l, k + 1, h, e, hn => by
    have h0 : p x = false := hn 0 (by simp) (by omega)
    have ih := fidx_at p l k (by simpa using h) (by simpa using e) (fun j hj hk => by have := hn (j + 1) (by simpa using hj) (by omega); simpa using this)
    unfold fidx
    rw [if_neg (by rw [h0]; simp), if_neg (by omega), ih]; rfl
theorem fidx_no {α : Type} (p : α → Bool) : ∀ (l : List α), (∀ j (hj : j < l.length), p l[j] = false) → fidx p l = -1
  | [], _ => rfl
  | x :: l, hn => by
    have h0 : p x = false := hn 0 (by simp)
    have ih := fidx_no p l (fun j hj => by have := hn (j + 1) (by simpa using hj); simpa using this)
    unfold fidx
    rw [if_neg (by rw [h0]; simp), if_pos (by omega)]
theorem fidx_any {α : Type} (p : α → Bool) : ∀ l : List α, decide (0 ≤ fidx p l) = l.any p
  | [] => rfl
  | x :: l => by
    have ih := fidx_any p l
    have hg := fidx_ge p l
    rw [List.any_cons]
    unfold fidx
    cases hp : p x
    · rw [if_neg (by simp), Bool.false_or, ← ih]
      split
      · rename_i h; rw [decide_eq_false (by omega), decide_eq_false (by omega)]
      · rename_i h; rw [decide_eq_true (by omega), decide_eq_true (by omega)]
    · rw [if_pos rfl]; rfl
theorem fidx_hit {α : Type} (p : α → Bool) (l : List α) (k : Nat) (h : fidx p l = k) : ∃ hk : k < l.length, p l[k] = true ∧ ∀ j (hj : j < l.length), j < k → p l[j] = false := by
  induction l generalizing k with
  | nil => simp [fidx] at h
  | cons x l ih =>
    unfold fidx at h
    cases hp : p x
    · rw [if_neg (by rw [hp]; simp)] at h
      have hg := fidx_ge p l
      split at h
      · omega
      · rename_i hn
        obtain ⟨m, rfl⟩ : ∃ m, k = m + 1 := ⟨k - 1, by omega⟩
        obtain ⟨hk, h1, h2⟩ := ih m (by omega)
        refine ⟨by simpa using hk, by simpa using h1, fun j hj hjk => ?_⟩
        cases j with
        | zero => simpa using hp
        | succ j => simpa using h2 j (by simpa using hj) (by omega)
    · rw [if_pos hp] at h
      obtain rfl : k = 0 := by omega
      exact ⟨by simp, by simpa using hp, fun j hj hjk => by omega⟩
end Go.Proofs.Ytbimnhbpcppfiaa
