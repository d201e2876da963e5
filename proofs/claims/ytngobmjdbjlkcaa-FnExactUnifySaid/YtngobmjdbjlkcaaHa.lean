import Derived.Test.YtngobmjdbjlkcaaMkT
/- Data over the second engine: rows laid one after another, sizes, marks. -/
namespace Go.Proofs.Ytngobmjdbjlkcaa
set_option linter.unusedVariables false
set_option linter.unusedSimpArgs false
open Go.RowKit
/-- a number as a row. -/
def iE (n : Int) : List D := [.s (.int .i64 n)]
theorem iE_eq (n : Int) : iE n = [.s (.int .i64 n)] := rfl
abbrev intsD (l : List Int) : D := .sl 1 (l.map iE)
/-- rows laid one after another into a slice that was made. -/
def partR {α : Type} (f : α → List D) (z : List D) (xs : List α) (i : Nat) : List (List D) := (xs.take i).map f ++ List.replicate (xs.length - i) z
section
variable {α : Type} {f : α → List D} {z : List D} {xs : List α} {i : Nat}
theorem partR_zero : partR f z xs 0 = List.replicate xs.length z := by simp [partR]
theorem partR_all : partR f z xs xs.length = xs.map f := by simp [partR]
theorem partR_len (h : i ≤ xs.length) : (partR f z xs i).length = xs.length := by simp [partR]; omega
theorem partR_set (h : i < xs.length) : (partR f z xs i).set i (f xs[i]) = partR f z xs (i + 1) := by
  unfold partR
  have e : (xs.length - i) = (xs.length - (i + 1)) + 1 := by omega
  rw [List.set_append_right _ _ (by simp; omega), List.length_map, List.length_take, Nat.min_eq_left (by omega), Nat.sub_self, e, List.replicate_succ, List.set_cons_zero, List.take_succ_eq_append_getElem h, List.map_append]
  simp
theorem partR_get (h : i < xs.length) : (partR f z xs i).getD i [] = z := by
  unfold partR
  rw [List.getD_eq_getElem?_getD, List.getElem?_append_right (by simp; omega)]
  have e : (xs.length - i) = (xs.length - (i + 1)) + 1 := by omega
  simp [Nat.min_eq_left (Nat.le_of_lt h), e, List.replicate_succ]
theorem take_all (f : α → List D) (xs : List α) : (xs.map f).take xs.length = xs.map f := List.take_of_length_le (by simp)
theorem frz_rows {g : α → List D} (h : ∀ x, frzL (f x) = g x) (xs : List α) : frzLL (xs.map f) = xs.map g := by
  rw [frzLL_map, List.map_map]; exact List.map_congr_left fun x _ => h x
end
theorem takeL {α : Type} {l : List α} {i : Nat} (h : l.length = i) : l.take i = l := List.take_of_length_le (by omega)
theorem frzLL_app (a b : List (List D)) : frzLL (a ++ b) = frzLL a ++ frzLL b := by rw [frzLL_map, frzLL_map, frzLL_map, List.map_append]
theorem frzLL_nil : frzLL [] = [] := rfl
theorem frzLL_cons (r : List D) (l : List (List D)) : frzLL (r :: l) = frzL r :: frzLL l := rfl
/-- the answer of a size function. -/
def RsZ (left : Int) (P : Prop) (r : D) : Prop := ∃ z : Int, r = .s (.int .i64 z) ∧ -1 ≤ z ∧ z ≤ left ∧ (0 ≤ z → P)
def smS {α : Type} (s : α → Prop) (xs : List α) : Prop := xs.length ≤ 1048576 ∧ ∀ x ∈ xs, s x
theorem sI_congr {a b : Int} (h : a = b) : D.s (.int .i64 a) = .s (.int .i64 b) := by rw [h]
/-! ### marks -/
/-- how many numbers the marks of a row of things take. -/
def cnts {α : Type} (c : α → Nat) : List α → Nat
  | [] => 0
  | x :: l => c x + cnts c l
/-- things marked from k on. -/
def marks {α : Type} (c : α → Nat) (m : Int → α → α) : Int → List α → List α
  | _, [] => []
  | k, x :: l => m k x :: marks c m (k + c x) l
section
variable {α : Type} {c : α → Nat} {m : Int → α → α}
theorem marks_len : ∀ (k : Int) (xs : List α), (marks c m k xs).length = xs.length
  | _, [] => rfl
  | k, x :: l => by simp [marks, marks_len (k + c x) l]
theorem cnts_const {n : Nat} (hc : ∀ x, c x = n) : ∀ (xs : List α), cnts c xs = n * xs.length
  | [] => rfl
  | x :: l => by rw [cnts, hc, cnts_const hc l, List.length_cons, Nat.mul_add]; omega
theorem cnts_app : ∀ (a b : List α), cnts c (a ++ b) = cnts c a + cnts c b
  | [], b => by simp [cnts]
  | x :: l, b => by simp [cnts, cnts_app l b]; omega
theorem cnts_step {xs : List α} {i : Nat} (h : i < xs.length) : cnts c (xs.take (i + 1)) = cnts c (xs.take i) + c xs[i] := by
  rw [List.take_succ_eq_append_getElem h, cnts_app]; simp [cnts]
theorem cnts_le (xs : List α) (i : Nat) : cnts c (xs.take i) ≤ cnts c xs := by
  have := cnts_app (c := c) (xs.take i) (xs.drop i)
  rw [List.take_append_drop] at this; omega
theorem marks_app : ∀ (k : Int) (a b : List α), marks c m k (a ++ b) = marks c m k a ++ marks c m (k + cnts c a) b
  | k, [], b => by simp [marks, cnts]
  | k, x :: l, b => by
    have e : k + (c x : Int) + (cnts c l : Int) = k + ((c x + cnts c l : Nat) : Int) := by push_cast; omega
    simp [marks, cnts, marks_app (k + c x) l b, Int.add_assoc]
theorem take_marks (k : Int) (xs : List α) (f : α → List D) : ((marks c m k xs).map f).take xs.length = (marks c m k xs).map f := List.take_of_length_le (by simp [marks_len])
/-- the first i are marked. -/
def stM (c : α → Nat) (m : Int → α → α) (k : Int) (xs : List α) (i : Nat) : List α := marks c m k (xs.take i) ++ xs.drop i
theorem stM_zero (k : Int) (xs : List α) : stM c m k xs 0 = xs := by simp [stM, marks]
theorem stM_all (k : Int) (xs : List α) : stM c m k xs xs.length = marks c m k xs := by simp [stM]
theorem stM_len (k : Int) {xs : List α} {i : Nat} (h : i ≤ xs.length) : (stM c m k xs i).length = xs.length := by simp [stM, marks_len]; omega
theorem stM_get (k : Int) {xs : List α} {i : Nat} (h : i < xs.length) (f : α → List D) : ((stM c m k xs i).map f).getD i [] = f xs[i] := by
  rw [List.getD_eq_getElem?_getD, List.getElem?_map, stM, List.getElem?_append_right (by simp [marks_len]; omega)]
  have e : i - (marks c m k (xs.take i)).length = 0 := by simp [marks_len]; omega
  rw [e, List.drop_eq_getElem_cons h]; rfl
theorem stM_set (k : Int) {xs : List α} {i : Nat} (h : i < xs.length) (f : α → List D) : ((stM c m k xs i).map f).set i (f (m (k + cnts c (xs.take i)) xs[i])) = (stM c m k xs (i + 1)).map f := by
  rw [← List.map_set]
  congr 1
  unfold stM
  have hl : (marks c m k (xs.take i)).length = i := by simp [marks_len]; omega
  rw [List.set_append_right _ _ (by omega), hl, Nat.sub_self, List.drop_eq_getElem_cons h, List.set_cons_zero, List.take_succ_eq_append_getElem h, marks_app, List.append_assoc]
  rfl
theorem marks_get (k : Int) {xs : List α} {i : Nat} (h : i < xs.length) (f : α → List D) : ((marks c m k xs).map f).getD i [] = f (m (k + cnts c (xs.take i)) xs[i]) := by
  have e := stM_set (c := c) (m := m) k h f
  have hs : marks c m k xs = stM c m k xs (i + 1) ++ [] ∨ True := .inr trivial
  have : marks c m k xs = marks c m k (xs.take i) ++ marks c m (k + cnts c (xs.take i)) (xs.drop i) := by rw [← marks_app, List.take_append_drop]
  rw [this, List.getD_eq_getElem?_getD, List.getElem?_map, List.getElem?_append_right (by simp [marks_len]; omega)]
  have e : i - (marks c m k (xs.take i)).length = 0 := by simp [marks_len]; omega
  rw [e, List.drop_eq_getElem_cons h]; rfl
end
attribute [go_sem] take_all take_marks takeL frzLL_app frzLL_nil frzLL_cons Nat.le_refl
end Go.Proofs.Ytngobmjdbjlkcaa
