import Derived.Test.YtngobmjdbjlkcaaBase
/- When a list of items is a type: plain. -/
namespace Go.Proofs.Ytngobmjdbjlkcaa
set_option linter.unusedVariables false
set_option linter.unusedSimpArgs false
structure TyI where
  v : Int
  name : ByteArray
  ar : Int
def TyI.ok (x : TyI) : Prop := I64 x.v ∧ x.name.size ≤ maxLen ∧ I64 x.ar
/-- an item by itself. -/
def itemM (x : TyI) : Bool :=
  if x.name.toList.isEmpty then decide (0 ≤ x.v) && decide (x.v ≤ 9999) && (x.ar == 0)
  else (x.v == 0) && (if x.name.toList == [45, 62] || x.name.toList == [42] then x.ar == 2 else if x.name.toList == [114, 101, 102] then x.ar == 1 else nameM x.name && decide (0 ≤ x.ar) && decide (x.ar ≤ 2))
theorem itemM_ar {x : TyI} (h : itemM x = true) : 0 ≤ x.ar ∧ x.ar ≤ 2 := by
  unfold itemM at h
  split at h
  · simp only [Bool.and_eq_true, decide_eq_true_eq, beq_iff_eq] at h; omega
  · split at h
    · simp only [Bool.and_eq_true, decide_eq_true_eq, beq_iff_eq] at h; omega
    · split at h <;> simp only [Bool.and_eq_true, decide_eq_true_eq, beq_iff_eq] at h <;> omega
/-- how many items m types in a row take. -/
def scan : List Nat → Nat → Option Nat
  | _, 0 => some 0
  | [], _ + 1 => none
  | a :: l, m + 1 => (scan l (m + a)).map (· + 1)
theorem scan_zero (l : List Nat) : scan l 0 = some 0 := by cases l <;> rfl
theorem scan_le : ∀ (l : List Nat) (m k : Nat), scan l m = some k → k ≤ l.length
  | l, 0, k, h => by rw [scan_zero] at h; cases h; exact Nat.zero_le _
  | [], m + 1, k, h => by cases h
  | a :: l, m + 1, k, h => by
    rw [scan] at h
    cases e : scan l (m + a) with
    | none => rw [e] at h; cases h
    | some j =>
      rw [e] at h
      have := scan_le l _ _ e
      have h2 : j + 1 = k := by simpa using h
      simp only [List.length_cons]
      omega
theorem scan_add : ∀ (l : List Nat) (m n : Nat), scan l (m + n) = (scan l m).bind fun k => (scan (l.drop k) n).map (· + k)
  | l, 0, n => by rw [scan_zero, Nat.zero_add]; simp
  | [], m + 1, n => by rw [show m + 1 + n = m + n + 1 by omega]; rfl
  | a :: l, m + 1, n => by
    rw [show m + 1 + n = m + n + 1 by omega, scan, scan, show m + n + a = (m + a) + n by omega, scan_add l (m + a) n]
    cases scan l (m + a) with
    | none => rfl
    | some k =>
      simp only [Option.bind_some, Option.map_some, List.drop_succ_cons]
      cases scan (l.drop k) n with
      | none => rfl
      | some j => simp; omega
/-- how many items behind 'at' one type takes, as the reference model's walk answers. -/
def arsM (xs : List TyI) : List Nat := xs.map fun x => x.ar.toNat
def endM (xs : List TyI) (k : Nat) : Int := match scan ((arsM xs).drop k) 1 with
  | some j => ((k + j : Nat) : Int)
  | none => -1
/-- the place behind i types that begin at k. -/
def endsM (xs : List TyI) (k i : Nat) : Int := match scan ((arsM xs).drop k) i with
  | some j => ((k + j : Nat) : Int)
  | none => -1
theorem endsM_zero (xs : List TyI) (k : Nat) : endsM xs k 0 = k := by unfold endsM; rw [scan_zero]; rfl
theorem endM_ends (xs : List TyI) (k : Nat) : endM xs k = endsM xs k 1 := rfl
theorem arsM_drop (xs : List TyI) (k : Nat) (h : k < xs.length) : (arsM xs).drop k = xs[k].ar.toNat :: (arsM xs).drop (k + 1) := by
  have hl : k < (arsM xs).length := by unfold arsM; simpa using h
  rw [List.drop_eq_getElem_cons hl]
  congr 1
  exact List.getElem_map _
theorem endM_step (xs : List TyI) (k : Nat) (h : k < xs.length) : endM xs k = endsM xs (k + 1) xs[k].ar.toNat := by
  unfold endM endsM
  rw [arsM_drop xs k h, scan, Nat.zero_add]
  cases scan ((arsM xs).drop (k + 1)) xs[k].ar.toNat with
  | none => rfl
  | some j => simp only [Option.map_some]; congr 1; omega
theorem endM_end (xs : List TyI) (k : Nat) (h : xs.length ≤ k) : endM xs k = -1 := by
  unfold endM
  rw [List.drop_eq_nil_of_le (by unfold arsM; simpa using h)]
  rfl
theorem endsM_neg (xs : List TyI) (k i : Nat) (h : endsM xs k i < 0) : ∀ j, i ≤ j → endsM xs k j = -1 := by
  intro j hj
  unfold endsM at h ⊢
  cases e : scan ((arsM xs).drop k) i with
  | some q => rw [e] at h; simp only at h; omega
  | none =>
    rw [show j = i + (j - i) by omega, scan_add, e]
    rfl
theorem endsM_succ (xs : List TyI) (k i : Nat) (n : Nat) (h : endsM xs k i = n) : endsM xs k (i + 1) = endM xs n := by
  unfold endsM at h
  cases e : scan ((arsM xs).drop k) i with
  | none => rw [e] at h; simp only at h; omega
  | some q =>
    rw [e] at h
    simp only at h
    obtain rfl : n = k + q := by omega
    unfold endsM endM
    rw [scan_add, e, Option.bind_some, List.drop_drop]
    cases scan ((arsM xs).drop (k + q)) 1 with
    | none => rfl
    | some j => simp only [Option.map_some]; congr 1; omega
theorem endsM_bd (xs : List TyI) (k i : Nat) (hk : k ≤ xs.length) : endsM xs k i = -1 ∨ ∃ n : Nat, endsM xs k i = n ∧ k ≤ n ∧ n ≤ xs.length := by
  unfold endsM
  cases e : scan ((arsM xs).drop k) i with
  | none => exact .inl rfl
  | some q =>
    refine .inr ⟨k + q, rfl, by omega, ?_⟩
    have := scan_le _ _ _ e
    have hl : ((arsM xs).drop k).length = xs.length - k := by unfold arsM; simp
    omega
/-- the answer. -/
def tyItemsM (xs : List TyI) : Bool := xs.all itemM && decide (endM xs 0 = xs.length)
def tyOkM (xs : List TyI) : Bool := decide (xs.length ≤ 200) && tyItemsM xs
/-- what the program's loop still has to answer at item k, when m types are still to come. -/
def restM (xs : List TyI) (k m : Nat) : Bool := (xs.drop k).all itemM && decide (endsM xs k m = xs.length)
theorem restM_start (xs : List TyI) : restM xs 0 1 = tyItemsM xs := by unfold restM tyItemsM; rw [endM_ends]; rfl
theorem restM_zero (xs : List TyI) (k : Nat) (h : k < xs.length) : restM xs k 0 = false := by
  unfold restM
  rw [endsM_zero, decide_eq_false (by omega), Bool.and_false]
theorem restM_bad (xs : List TyI) (k m : Nat) (h : k < xs.length) (hb : itemM xs[k] = false) : restM xs k m = false := by
  unfold restM
  rw [List.drop_eq_getElem_cons h, List.all_cons, hb]; rfl
theorem restM_step (xs : List TyI) (k m : Nat) (h : k < xs.length) (hb : itemM xs[k] = true) : restM xs k (m + 1) = restM xs (k + 1) (m + xs[k].ar.toNat) := by
  unfold restM
  rw [List.drop_eq_getElem_cons h, List.all_cons, hb, Bool.true_and]
  congr 1
  have : endsM xs k (m + 1) = endsM xs (k + 1) (m + xs[k].ar.toNat) := by
    unfold endsM
    rw [arsM_drop xs k h, scan]
    cases scan ((arsM xs).drop (k + 1)) (m + xs[k].ar.toNat) with
    | none => rfl
    | some j => simp only [Option.map_some]; congr 1; omega
  rw [this]
theorem restM_end (xs : List TyI) (k m : Nat) (h : k = xs.length) : restM xs k m = decide (m = 0) := by
  subst h
  unfold restM endsM
  rw [List.drop_eq_nil_of_le (Nat.le_refl _), List.drop_eq_nil_of_le (by unfold arsM; simp)]
  cases m with
  | zero => simp [scan]
  | succ m => simp [scan]
end Go.Proofs.Ytngobmjdbjlkcaa
