/- Decimal digits: no program in sight. -/
import Derived.Test.YtokjkmibnjfkaaaStr
import Derived.Test.YtokjkmibnjfkaaaNum
namespace Go.Proofs.Ytokjkmibnjfkaaa

/-- a digit's byte. -/
def dgt (d : Nat) : UInt8 := UInt8.ofNat (48 + d)
theorem dgt_nat {d : Nat} (h : d < 10) : (dgt d).toNat = 48 + d := by
  unfold dgt; rw [UInt8.toNat_ofNat']; omega
/-- the decimal digits of a number. -/
def decL (n : Nat) : List UInt8 := if n < 10 then [dgt n] else decL (n / 10) ++ [dgt (n % 10)]
theorem decL_small {n : Nat} (h : n < 10) : decL n = [dgt n] := by rw [decL, if_pos h]
theorem decL_big {n : Nat} (h : ¬ n < 10) : decL n = decL (n / 10) ++ [dgt (n % 10)] := by rw [decL, if_neg h]
theorem decL_pos (n : Nat) : 0 < (decL n).length := by
  by_cases h : n < 10
  · rw [decL_small h]; simp
  · rw [decL_big h]; simp
theorem decL_len : ∀ (k n : Nat), n < 10 ^ (k + 1) → (decL n).length ≤ k + 1
  | 0, n, h => by rw [decL_small (by simpa using h)]; simp
  | k + 1, n, h => by
    by_cases h' : n < 10
    · rw [decL_small h']; simp
    · rw [decL_big h', List.length_append]
      have := decL_len k (n / 10) (by rw [Nat.pow_succ] at h; omega)
      simp; omega
/-- the state of the loop that writes digits from the last to the first. -/
def DecInv (N n : Nat) (out : List UInt8) : Prop :=
  ((0 < n ∨ out = []) → decL N = decL n ++ out.reverse) ∧ (n = 0 → out ≠ [] → decL N = out.reverse)
theorem DecInv.start (N : Nat) : DecInv N N [] := ⟨fun _ => by simp, fun _ h => absurd rfl h⟩
theorem DecInv.step {N n : Nat} {out : List UInt8} (h : DecInv N n out) (hc : 0 < n ∨ out = []) : DecInv N (n / 10) (out ++ [dgt (n % 10)]) := by
  have e := h.1 hc
  refine ⟨fun hc' => ?_, fun hz _ => ?_⟩
  · have : 0 < n / 10 := by rcases hc' with h | h
                            · exact h
                            · simp at h
    rw [e, decL_big (by omega)]; simp
  · rw [e, decL_small (by omega), Nat.mod_eq_of_lt (by omega)]; simp
theorem DecInv.done {N n : Nat} {out : List UInt8} (h : DecInv N n out) (hc : ¬ (0 < n ∨ out = [])) : decL N = out.reverse :=
  h.2 (by omega) (fun e => hc (.inr e))

/-- the text of a number. -/
def numT (n : Int) : List UInt8 :=
  if -4611686018427387904 ≤ n ∧ n ≤ 4611686018427387903 then (if n < 0 then 45 :: decL n.natAbs else decL n.natAbs) else []
theorem numT_out {n : Int} (h : ¬ (-4611686018427387904 ≤ n ∧ n ≤ 4611686018427387903)) : numT n = [] := by rw [numT, if_neg h]
theorem numT_neg {n : Int} (h : -4611686018427387904 ≤ n) (h0 : n < 0) : numT n = 45 :: decL (-n).toNat := by
  rw [numT, if_pos ⟨h, by omega⟩, if_pos h0]; congr 2; omega
theorem numT_pos {n : Int} (h : n ≤ 4611686018427387903) (h0 : ¬ n < 0) : numT n = decL n.toNat := by
  rw [numT, if_pos ⟨by omega, h⟩, if_neg h0]; congr 1; omega
theorem numT_len (n : Int) : (numT n).length ≤ 20 := by
  unfold numT
  split
  · have := decL_len 18 n.natAbs (by omega)
    split <;> simp <;> omega
  · simp

/-- one exchange of a reversal in place. -/
def swp (l : List UInt8) (i j : Nat) : List UInt8 := (l.set i (l.getD j 0)).set j (l.getD i 0)
/-- the first k exchanges. -/
def revTo (l : List UInt8) (k : Nat) : List UInt8 := (List.range l.length).map fun p => if p < k ∨ l.length - k ≤ p then l.getD (l.length - 1 - p) 0 else l.getD p 0
theorem revTo_length (l : List UInt8) (k : Nat) : (revTo l k).length = l.length := by simp [revTo]
theorem revTo_getD (l : List UInt8) (k p : Nat) (h : p < l.length) : (revTo l k).getD p 0 = if p < k ∨ l.length - k ≤ p then l.getD (l.length - 1 - p) 0 else l.getD p 0 := by
  simp [revTo, List.getD_eq_getElem?_getD, List.getElem?_map, List.getElem?_range h]
theorem list_ext_getD {a b : List UInt8} (h : a.length = b.length) (h2 : ∀ p, p < a.length → a.getD p 0 = b.getD p 0) : a = b := by
  apply List.ext_getElem h
  intro p h1 h3
  have := h2 p h1
  simpa [List.getD_eq_getElem?_getD, List.getElem?_eq_getElem h1, List.getElem?_eq_getElem h3] using this
theorem revTo_zero (l : List UInt8) : revTo l 0 = l := list_ext_getD (revTo_length _ _) fun p h => by
  rw [revTo_length] at h
  rw [revTo_getD _ _ _ h, if_neg (by omega)]
theorem revTo_succ (l : List UInt8) (k : Nat) (h : k < l.length - 1 - k) : swp (revTo l k) k (l.length - 1 - k) = revTo l (k + 1) := by
  refine list_ext_getD (by simp [swp, revTo_length]) fun p hp => ?_
  have hp' : p < l.length := by simpa [swp, revTo_length] using hp
  rw [revTo_getD _ _ _ hp']
  unfold swp
  rw [revTo_getD _ _ _ (by omega), revTo_getD _ _ _ (by omega)]
  simp only [List.getD_eq_getElem?_getD, List.getElem?_set, List.length_set, revTo_length]
  by_cases e1 : l.length - 1 - k = p
  · subst e1
    rw [if_pos rfl, if_pos (by omega), if_neg (by omega), if_pos (by omega)]
    simp [show l.length - 1 - (l.length - 1 - k) = k by omega]
  · rw [if_neg e1]
    by_cases e2 : k = p
    · subst e2
      rw [if_pos rfl, if_pos (by omega), if_neg (by omega), if_pos (by omega)]
      simp
    · rw [if_neg e2]
      have := revTo_getD l k p hp'
      rw [List.getD_eq_getElem?_getD] at this
      rw [this]
      by_cases c : p < k ∨ l.length - k ≤ p
      · rw [if_pos c, if_pos (by omega)]; simp [List.getD_eq_getElem?_getD]
      · rw [if_neg c, if_neg (by omega)]; simp [List.getD_eq_getElem?_getD]
theorem revTo_end (l : List UInt8) (k : Nat) (h : ¬ k < l.length - 1 - k) : revTo l k = l.reverse := by
  refine list_ext_getD (by simp [revTo_length]) fun p hp => ?_
  have hp' : p < l.length := by simpa [revTo_length] using hp
  rw [revTo_getD _ _ _ hp']
  have e : l.reverse.getD p 0 = l.getD (l.length - 1 - p) 0 := by
    simp [List.getD_eq_getElem?_getD, List.getElem?_reverse hp']
  rw [e]
  by_cases c : p < k ∨ l.length - k ≤ p
  · rw [if_pos c]
  · rw [if_neg c]; congr 1; omega
end Go.Proofs.Ytokjkmibnjfkaaa
