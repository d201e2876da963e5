import Derived.Test.YthmedgipfdoneaaAbR
/- Slices that are made and laid, over plain data. -/
namespace Go.Proofs.Ythmedgipfdoneaa
set_option linter.unusedVariables false
set_option linter.unusedSimpArgs false
open Go.RowKit
/-- rows laid one after another into a slice that was made. -/
def partC {α : Type} (f : α → List C) (z : List C) (xs : List α) (i : Nat) : List C := ((xs.take i).map f).flatten ++ (List.replicate (xs.length - i) z).flatten
theorem flat_len {α : Type} (f : α → List C) (k : Nat) (hf : ∀ x, (f x).length = k) (xs : List α) : ((xs.map f).flatten).length = xs.length * k := by
  induction xs with
  | nil => simp
  | cons x l ih => rw [List.map_cons, List.flatten_cons, List.length_append, hf, ih, List.length_cons, Nat.add_mul]; omega
theorem rep_len (z : List C) (n : Nat) : ((List.replicate n z).flatten).length = n * z.length := by
  induction n with
  | zero => simp
  | succ n ih => rw [List.replicate_succ, List.flatten_cons, List.length_append, ih, Nat.add_mul]; omega
theorem partC_len {α : Type} {f : α → List C} {z : List C} {k : Nat} (hf : ∀ x, (f x).length = k) (hz : z.length = k) (xs : List α) (i : Nat) (h : i ≤ xs.length) : (partC f z xs i).length = xs.length * k := by
  unfold partC
  rw [List.length_append, flat_len f k hf, rep_len, hz, List.length_take, Nat.min_eq_left h, ← Nat.add_mul]; congr 1; omega
theorem partC_zero {α : Type} (f : α → List C) (z : List C) (xs : List α) : partC f z xs 0 = (List.replicate xs.length z).flatten := by simp [partC]
theorem partC_lay {α : Type} {f : α → List C} {z : List C} {k : Nat} (hf : ∀ x, (f x).length = k) (hz : z.length = k) (xs : List α) (i : Nat) (h : i < xs.length) : lay (partC f z xs i) (i * k) (f xs[i]) = partC f z xs (i + 1) := by
  unfold lay partC
  have h1 : (((xs.take i).map f).flatten).length = i * k := by rw [flat_len f k hf, List.length_take, Nat.min_eq_left (by omega)]
  have hr : (List.replicate (xs.length - i) z).flatten = z ++ (List.replicate (xs.length - (i + 1)) z).flatten := by
    rw [show xs.length - i = (xs.length - (i + 1)) + 1 by omega, List.replicate_succ, List.flatten_cons]
  rw [hf, hr, List.take_append_of_le_length (by omega), List.take_of_length_le (by omega), List.drop_append, h1, List.drop_of_length_le (by rw [h1]; omega), List.nil_append, show i * k + k - i * k = k by omega, List.drop_append, List.drop_of_length_le (by omega), hz, Nat.sub_self, List.drop_zero, List.nil_append, List.take_succ_eq_append_getElem h, List.map_append, List.flatten_append]
  simp
theorem partC_all {α : Type} (f : α → List C) (z : List C) (xs : List α) : partC f z xs xs.length = (xs.map f).flatten := by simp [partC]
theorem chunk_flat {α : Type} (enc : α → List D) (k : Nat) (hk : ∀ x, (enc x).length = k) : ∀ (xs : List α), chunk k xs.length (((xs.map fun x => (enc x).map C.d).flatten).map cD) = xs.map enc
  | [] => rfl
  | x :: l => by
    have h0 : ((enc x).map C.d).map cD = enc x := by rw [List.map_map]; simp [Function.comp_def, cD]
    rw [List.map_cons, List.flatten_cons, List.map_append, h0, List.length_cons, chunk, List.take_append_of_le_length (by rw [hk]; exact Nat.le_refl _), List.take_of_length_le (by rw [hk]; exact Nat.le_refl _), List.drop_append, List.drop_of_length_le (by rw [hk]; exact Nat.le_refl _), hk, Nat.sub_self, List.drop_zero, List.nil_append, chunk_flat enc k hk l, List.map_cons]
theorem flat_sc {α : Type} (enc : α → List D) (p : Nat → Bool) (xs : List α) : (xs.map fun x => (enc x).map C.d).flatten.map (scC p) = (xs.map fun x => (enc x).map C.d).flatten := by
  rw [List.map_flatten, List.map_map]
  congr 1
  apply List.map_congr_left
  intro x _
  simp [Function.comp_def, scC]
theorem partC_sc {α : Type} (enc : α → List D) (z : List D) (p : Nat → Bool) (xs : List α) (i : Nat) : (partC (fun x => (enc x).map C.d) (z.map C.d) xs i).map (scC p) = partC (fun x => (enc x).map C.d) (z.map C.d) xs i := by
  unfold partC
  rw [List.map_append, flat_sc]
  congr 1
  rw [List.map_flatten, List.map_replicate]
  congr 1
  congr 1
  simp [Function.comp_def, scC]
/-- the answer of a size function. -/
def RsZ (left : Int) (P : Prop) (r : T) : Prop := ∃ z : Int, r = Tint z ∧ -1 ≤ z ∧ z ≤ left ∧ (0 ≤ z → P)
def smS {α : Type} (s : α → Prop) (xs : List α) : Prop := xs.length ≤ 1048576 ∧ ∀ x ∈ xs, s x
end Go.Proofs.Ythmedgipfdoneaa
