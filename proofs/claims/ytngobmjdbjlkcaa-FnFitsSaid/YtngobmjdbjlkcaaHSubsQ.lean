import Derived.Test.YtngobmjdbjlkcaaSortM
import Derived.Test.YtngobmjdbjlkcaaHSub
/- When a substitution is right: plain. -/
namespace Go.Proofs.Ytngobmjdbjlkcaa
set_option linter.unusedVariables false
set_option linter.unusedSimpArgs false
/-- the pair ahead of a place has a smaller variable. -/
def riseB (l : List SubM) (i : Nat) (v : Int) : Bool := match i with
  | 0 => true
  | j + 1 => match l[j]? with | some y => !decide (v ≤ y.v) | none => true
def subB (l : List SubM) (i : Nat) : Bool := match l[i]? with
  | none => true
  | some s => (decide (0 ≤ s.v) && decide (s.v ≤ 9999)) && (riseB l i s.v && tyOkM s.ty)
/-- no variable of a type is put away. -/
def clashB (l : List SubM) (xs : List TyI) : Bool := (varsM xs).any fun v => l.any fun s => s.v == v
def crossB (l : List SubM) (i : Nat) : Bool := match l[i]? with
  | none => true
  | some s => !clashB l s.ty
def subsM (l : List SubM) : Bool := (List.range l.length).all (subB l) && (List.range l.length).all (crossB l)
theorem subB_at {l : List SubM} {i : Nat} (h : i < l.length) : subB l i = ((decide (0 ≤ l[i].v) && decide (l[i].v ≤ 9999)) && (riseB l i l[i].v && tyOkM l[i].ty)) := by unfold subB; rw [List.getElem?_eq_getElem h]
theorem crossB_at {l : List SubM} {i : Nat} (h : i < l.length) : crossB l i = !clashB l l[i].ty := by unfold crossB; rw [List.getElem?_eq_getElem h]
theorem range_all {p : Nat → Bool} {n : Nat} (h : ∀ i, i < n → p i = true) : (List.range n).all p = true := by
  rw [List.all_eq_true]
  intro x hx
  exact h x (List.mem_range.1 hx)
theorem range_not {p : Nat → Bool} {n i : Nat} (hi : i < n) (h : p i = false) : (List.range n).all p = false := by
  rw [List.all_eq_false]
  exact ⟨i, List.mem_range.2 hi, by rw [h]; simp⟩
theorem subsM_bad1 {l : List SubM} {i : Nat} (h : i < l.length) (hb : subB l i = false) : subsM l = false := by unfold subsM; rw [range_not h hb]; rfl
theorem subsM_bad2 {l : List SubM} {i : Nat} (h : i < l.length) (hb : crossB l i = false) : subsM l = false := by unfold subsM; rw [range_not h hb]; simp
theorem subsM_good {l : List SubM} (h1 : ∀ i, i < l.length → subB l i = true) (h2 : ∀ i, i < l.length → crossB l i = true) : subsM l = true := by unfold subsM; rw [range_all h1, range_all h2]; rfl
theorem riseB_zero (l : List SubM) (v : Int) : riseB l 0 v = true := rfl
theorem riseB_succ {l : List SubM} {j : Nat} (h : j < l.length) (v : Int) : riseB l (j + 1) v = !decide (v ≤ l[j].v) := by
  show (match l[j]? with | some y => !decide (v ≤ y.v) | none => true) = _
  rw [List.getElem?_eq_getElem h]
theorem clash_sort (l : List SubM) (xs : List TyI) : clashB l xs = l.any fun s => decide (s.v ∈ sortM xs) := by
  unfold clashB
  rw [Bool.eq_iff_iff, List.any_eq_true, List.any_eq_true]
  constructor
  · rintro ⟨v, hv, h⟩
    obtain ⟨s, hs, e⟩ := List.any_eq_true.1 h
    have e' : s.v = v := by simpa using e
    exact ⟨s, hs, decide_eq_true (by rw [e']; exact (sortM_mem xs v).2 hv)⟩
  · rintro ⟨s, hs, h⟩
    exact ⟨s.v, (sortM_mem xs _).1 (of_decide_eq_true h), List.any_eq_true.2 ⟨s, hs, by simp⟩⟩
end Go.Proofs.Ytngobmjdbjlkcaa
