import Derived.WalkKit
import Derived.Lib.Hide
/- Nodes in the walk's order: plain. -/
namespace Go.Proofs.Ythkgncddilkmbaa
set_option linter.unusedVariables false
/-- kids, one after another, each behind the one before. -/
def pKids (f : Nat → Option Nat) : List Int → Nat → Option Nat
  | [], next => some next
  | k :: l, next => if k = (next : Int) then (f next).bind (pKids f l) else none
/-- the place behind a node, where all below it stands in the walk's order. -/
def pEnd (ks : List (List Int)) : Nat → Nat → Option Nat
  | 0, _ => none
  | n + 1, at_ => (ks[at_]?).bind fun l => pKids (pEnd ks n) l (at_ + 1)
def walkR (ks : List (List Int)) (n : Nat) (i : Int) (m : Nat) : Option Nat := if i = (m : Int) then pEnd ks n m else none
def orderM (ks : List (List Int)) : Bool := pEnd ks ks.length 0 == some ks.length
theorem pKids_cons (ks : List (List Int)) (n : Nat) (k : Int) (l : List Int) (m : Nat) : pKids (pEnd ks n) (k :: l) m = (walkR ks n k m).bind (pKids (pEnd ks n) l) := by
  unfold walkR
  rw [pKids]
  split <;> rfl
theorem pKids_bd (f : Nat → Option Nat) (N : Nat) (hf : ∀ m e, f m = some e → m < e ∧ e ≤ N) : ∀ (l : List Int) (m e : Nat), m ≤ N → pKids f l m = some e → m ≤ e ∧ e ≤ N
  | [], m, e, hm, h => by
    have h' : some m = some e := h
    injection h' with h'; omega
  | k :: l, m, e, hm, h => by
    rw [pKids] at h
    split at h
    · cases hc : f m with
      | none => rw [hc] at h; cases h
      | some e1 =>
        rw [hc] at h
        have := hf m e1 hc
        have := pKids_bd f N hf l e1 e this.2 h
        omega
    · cases h
theorem pEnd_bd (ks : List (List Int)) : ∀ (n m e : Nat), pEnd ks n m = some e → m < e ∧ e ≤ ks.length
  | 0, m, e, h => by cases h
  | n + 1, m, e, h => by
    rw [pEnd] at h
    cases hl : ks[m]? with
    | none => rw [hl] at h; cases h
    | some l =>
      rw [hl] at h
      have hm : m < ks.length := by
        rcases Nat.lt_or_ge m ks.length with q | q
        · exact q
        · rw [List.getElem?_eq_none q] at hl; cases hl
      have := pKids_bd (pEnd ks n) ks.length (pEnd_bd ks n) l (m + 1) e hm h
      omega
theorem walkR_bd {ks : List (List Int)} {n : Nat} {i : Int} {m e : Nat} (h : walkR ks n i m = some e) : i = m ∧ m < e ∧ e ≤ ks.length := by
  unfold walkR at h
  split at h
  · rename_i hi
    have := pEnd_bd ks n m e h
    exact ⟨hi, this⟩
  · cases h
theorem pEnd_at (ks : List (List Int)) (n m : Nat) (h : m < ks.length) : pEnd ks (n + 1) m = pKids (pEnd ks n) ks[m] (m + 1) := by
  rw [pEnd, List.getElem?_eq_getElem h]; rfl
theorem pEnd_out (ks : List (List Int)) (n m : Nat) (h : ks.length ≤ m) : pEnd ks n m = none := by
  cases n with
  | zero => rfl
  | succ n => rw [pEnd, List.getElem?_eq_none h]; rfl
/-- the reference's answer. -/
def endZ (o : Option Nat) : Int := match o with | none => -1 | some e => (e : Int)
theorem endZ_len (o : Option Nat) (n : Nat) : (endZ o == (n : Int)) = (o == some n) := by
  cases o with
  | none => simp [endZ]
  | some e =>
    simp only [endZ]
    by_cases h : e = n
    · subst h; simp
    · have : ¬ (e : Int) = n := by omega
      have a : ((e : Int) == (n : Int)) = false := beq_eq_false_iff_ne.mpr this
      have b : (some e == some n) = false := beq_eq_false_iff_ne.mpr (by simpa using h)
      rw [a, b]
theorem drop_cons {α : Type} (l : List α) (j : Nat) (h : j < l.length) : l.drop j = l[j] :: l.drop (j + 1) := List.drop_eq_getElem_cons h
end Go.Proofs.Ythkgncddilkmbaa
