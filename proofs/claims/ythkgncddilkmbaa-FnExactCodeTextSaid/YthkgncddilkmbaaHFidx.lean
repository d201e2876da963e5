import Derived.WalkKit
/- Places in lists, plain. -/
namespace Go.Proofs.Ythkgncddilkmbaa
set_option linter.unusedVariables false
/-- the place of the first that has a property; -1 where there is none. -/
def fidx {α : Type} (p : α → Bool) : List α → Int
  | [] => -1
  | x :: l => if p x = true then 0 else if fidx p l < 0 then -1 else fidx p l + 1
theorem fidx_ge {α : Type} (p : α → Bool) : ∀ (l : List α), -1 ≤ fidx p l
  | [] => by simp [fidx]
  | x :: l => by
    have := fidx_ge p l
    rw [fidx]; split <;> (try split) <;> omega
theorem fidx_at {α : Type} (p : α → Bool) : ∀ (l : List α) (k : Nat) (h : k < l.length), (∀ x ∈ l.take k, p x = false) → p l[k] = true → fidx p l = k
  | x :: l, 0, _, _, hp => by
    have hp : p x = true := hp
    rw [fidx, if_pos hp]; rfl
  | x :: l, k + 1, h, hn, hp => by
    rw [fidx, if_neg (by rw [hn x (by simp)]; simp), fidx_at p l k (by simpa using h) (fun y hy => hn y (by simp [hy])) (by simpa using hp)]
    rw [if_neg (by omega)]; omega
theorem fidx_no {α : Type} (p : α → Bool) : ∀ (l : List α), (∀ x ∈ l, p x = false) → fidx p l = -1
  | [], _ => rfl
  | x :: l, h => by rw [fidx, if_neg (by rw [h x (by simp)]; simp), fidx_no p l (fun y hy => h y (by simp [hy]))]; rfl
theorem fidx_any {α : Type} (p : α → Bool) : ∀ (l : List α), decide (fidx p l ≥ 0) = l.any p
  | [] => rfl
  | x :: l => by
    rw [fidx, List.any_cons, ← fidx_any p l]
    by_cases h : p x = true
    · rw [if_pos h, h]; rfl
    · rw [if_neg h]
      have : p x = false := by simpa using h
      rw [this, Bool.false_or]
      have := fidx_ge p l
      by_cases q : fidx p l < 0
      · rw [if_pos q, decide_eq_false (by omega), decide_eq_false (by omega)]
      · rw [if_neg q, decide_eq_true (by omega), decide_eq_true (by omega)]
theorem take_no {α : Type} {p : α → Bool} {xs : List α} {k : Nat} (h : k < xs.length) (hno : ∀ x ∈ xs.take k, p x = false) (hk : p xs[k] = false) : ∀ x ∈ xs.take (k + 1), p x = false := by
  intro x hx
  rw [List.take_succ_eq_append_getElem h] at hx
  rcases List.mem_append.1 hx with hx | hx
  · exact hno x hx
  · simp at hx; rw [hx]; exact hk
end Go.Proofs.Ythkgncddilkmbaa
