import Derived.Test.YtngobmjdbjlkcaaTyM
/- Variables of a type in the order of their first occurrence; the canonical type: plain. -/
namespace Go.Proofs.Ytngobmjdbjlkcaa
set_option linter.unusedVariables false
set_option linter.unusedSimpArgs false
def varB (x : TyI) : Bool := x.name.toList.isEmpty
/-- the place of a number in a list; its length where there is none. -/
def idxN : List Int → Int → Nat
  | [], _ => 0
  | y :: l, x => if y = x then 0 else idxN l x + 1
theorem idxN_le : ∀ (l : List Int) (x : Int), idxN l x ≤ l.length
  | [], _ => Nat.le_refl _
  | y :: l, x => by
    rw [idxN]
    split
    · simp
    · have := idxN_le l x
      simp; omega
theorem idxN_lt : ∀ (l : List Int) (x : Int), idxN l x < l.length ↔ x ∈ l
  | [], x => by simp [idxN]
  | y :: l, x => by
    rw [idxN]
    split
    · rename_i h; subst h; simp
    · rename_i h
      have := idxN_lt l x
      rw [List.mem_cons]
      constructor
      · intro q
        exact .inr (this.1 (by simpa using q))
      · rintro (rfl | q)
        · exact absurd rfl h
        · have := this.2 q
          simpa using this
theorem idxN_app : ∀ (l t : List Int) (x : Int), x ∈ l → idxN (l ++ t) x = idxN l x
  | [], t, x, h => by cases h
  | y :: l, t, x, h => by
    rw [List.cons_append, idxN, idxN]
    split
    · rfl
    · rename_i hne
      rw [idxN_app l t x (by rcases List.mem_cons.1 h with rfl | h; exact absurd rfl hne; exact h)]
theorem idxN_snoc : ∀ (l t : List Int) (x : Int), x ∉ l → idxN (l ++ x :: t) x = l.length
  | [], t, x, h => by simp [idxN]
  | y :: l, t, x, h => by
    rw [List.cons_append, idxN, if_neg (fun e => h (by rw [e]; simp)), idxN_snoc l t x (fun q => h (by simp [q]))]; rfl
theorem idxN_at : ∀ (l : List Int) (x : Int) (k : Nat) (h : k < l.length), l[k] = x → (∀ j (hj : j < k), l[j]'(by omega) ≠ x) → idxN l x = k
  | [], x, k, h, _, _ => by simp at h
  | y :: l, x, 0, _, e, _ => by rw [idxN, if_pos (by simpa using e)]
  | y :: l, x, k + 1, h, e, hn => by
    rw [idxN, if_neg (show ¬ y = x from hn 0 (by omega)), idxN_at l x k (by simpa using h) (by simpa using e) (fun j hj => by have := hn (j + 1) (by omega); simpa using this)]
theorem idxN_no : ∀ (l : List Int) (x : Int), (∀ j (hj : j < l.length), l[j] ≠ x) → idxN l x = l.length
  | [], x, _ => rfl
  | y :: l, x, hn => by
    rw [idxN, if_neg (show ¬ y = x from hn 0 (by simp)), idxN_no l x (fun j hj => by have := hn (j + 1) (by simpa using hj); simpa using this)]; rfl
/-- one item more. -/
def varsStep (seen : List Int) (x : TyI) : List Int := if varB x = true ∧ x.v ∉ seen then seen ++ [x.v] else seen
def varsM (xs : List TyI) : List Int := xs.foldl varsStep []
theorem varsM_take (xs : List TyI) (k : Nat) (h : k < xs.length) : varsM (xs.take (k + 1)) = varsStep (varsM (xs.take k)) xs[k] := by
  unfold varsM
  rw [List.take_succ_eq_append_getElem h, List.foldl_append]; rfl
theorem varsStep_new {seen : List Int} {x : TyI} (h : varB x = true) (hn : x.v ∉ seen) : varsStep seen x = seen ++ [x.v] := by unfold varsStep; rw [if_pos ⟨h, hn⟩]
theorem varsStep_old {seen : List Int} {x : TyI} (h : varB x = true → x.v ∈ seen) : varsStep seen x = seen := by unfold varsStep; rw [if_neg (fun q => q.2 (h q.1))]
theorem varsStep_pre (seen : List Int) (x : TyI) : ∃ t, varsStep seen x = seen ++ t := by
  unfold varsStep
  split
  · exact ⟨_, rfl⟩
  · exact ⟨[], by simp⟩
theorem fold_pre : ∀ (l : List TyI) (s : List Int), ∃ t, l.foldl varsStep s = s ++ t
  | [], s => ⟨[], by simp⟩
  | x :: l, s => by
    obtain ⟨t, ht⟩ := varsStep_pre s x
    obtain ⟨u, hu⟩ := fold_pre l (varsStep s x)
    exact ⟨t ++ u, by rw [List.foldl_cons, hu, ht, List.append_assoc]⟩
theorem varsM_pre (xs : List TyI) (k : Nat) : ∃ t, varsM xs = varsM (xs.take k) ++ t := by
  obtain ⟨t, ht⟩ := fold_pre (xs.drop k) (varsM (xs.take k))
  refine ⟨t, ?_⟩
  rw [← ht]
  unfold varsM
  rw [← List.foldl_append, List.take_append_drop]
theorem varsM_len (xs : List TyI) : ∀ k, k ≤ xs.length → (varsM (xs.take k)).length ≤ k
  | 0, _ => by simp [varsM]
  | k + 1, h => by
    rw [varsM_take xs k (by omega)]
    have := varsM_len xs k (by omega)
    unfold varsStep
    split
    · rw [List.length_append]; simpa using this
    · omega
theorem varsM_len' (xs : List TyI) : (varsM xs).length ≤ xs.length := by have := varsM_len xs xs.length (Nat.le_refl _); rwa [List.take_length] at this
theorem varsM_mem (xs : List TyI) : ∀ k, k ≤ xs.length → ∀ v, v ∈ varsM (xs.take k) ↔ ∃ j, ∃ h : j < xs.length, j < k ∧ varB xs[j] = true ∧ xs[j].v = v
  | 0, _, v => by simp [varsM]
  | k + 1, h, v => by
    rw [varsM_take xs k (by omega)]
    have ih := varsM_mem xs k (by omega) v
    have key : v ∈ varsStep (varsM (xs.take k)) xs[k] ↔ v ∈ varsM (xs.take k) ∨ (varB xs[k] = true ∧ xs[k].v = v) := by
      unfold varsStep
      by_cases hb : varB xs[k] = true
      · by_cases hm : xs[k].v ∈ varsM (xs.take k)
        · rw [if_neg (fun q => q.2 hm)]
          constructor
          · exact .inl
          · rintro (q | ⟨_, rfl⟩)
            · exact q
            · exact hm
        · rw [if_pos ⟨hb, hm⟩, List.mem_append, List.mem_singleton]
          constructor
          · rintro (q | rfl)
            · exact .inl q
            · exact .inr ⟨hb, rfl⟩
          · rintro (q | ⟨_, rfl⟩)
            · exact .inl q
            · exact .inr rfl
      · rw [if_neg (fun q => hb q.1)]
        constructor
        · exact .inl
        · rintro (q | q)
          · exact q
          · exact absurd q.1 hb
    rw [key, ih]
    constructor
    · rintro (⟨j, h1, h2, h3, h4⟩ | ⟨h3, h4⟩)
      · exact ⟨j, h1, by omega, h3, h4⟩
      · exact ⟨k, by omega, by omega, h3, h4⟩
    · rintro ⟨j, h1, h2, h3, h4⟩
      rcases Nat.lt_or_ge j k with q | q
      · exact .inl ⟨j, h1, q, h3, h4⟩
      · obtain rfl : j = k := by omega
        exact .inr ⟨h3, h4⟩
theorem varsM_mem' (xs : List TyI) (v : Int) : v ∈ varsM xs ↔ ∃ x ∈ xs, varB x = true ∧ x.v = v := by
  have := varsM_mem xs xs.length (Nat.le_refl _) v
  rw [List.take_length] at this
  rw [this]
  constructor
  · rintro ⟨j, h1, _, h3, h4⟩
    exact ⟨_, List.getElem_mem h1, h3, h4⟩
  · rintro ⟨x, hx, h3, h4⟩
    obtain ⟨j, hj, rfl⟩ := List.getElem_of_mem hx
    exact ⟨j, hj, hj, h3, h4⟩
/-- one item of the canonical type. -/
def canonI (vs : List Int) (x : TyI) : TyI := if varB x then ⟨(idxN vs x.v : Nat), x.name, x.ar⟩ else x
def canonM (xs : List TyI) : List TyI := xs.map (canonI (varsM xs))
theorem canonM_at (xs : List TyI) (k : Nat) (h : k < xs.length) : (canonM xs)[k]'(by unfold canonM; simpa using h) = canonI (varsM xs) xs[k] := by unfold canonM; simp
/-- as the reference's walk finds it. -/
theorem canonI_old (xs : List TyI) (k : Nat) (h : k < xs.length) : canonI (varsM xs) xs[k] = canonI (varsM (xs.take (k + 1))) xs[k] := by
  unfold canonI
  split
  · rename_i hb
    obtain ⟨t, ht⟩ := varsM_pre xs (k + 1)
    rw [ht, idxN_app _ _ _ ((varsM_mem xs (k + 1) (by omega) _).2 ⟨k, h, by omega, hb, rfl⟩)]
  · rfl
theorem canonI_new {seen : List Int} {x : TyI} (h : varB x = true) (hn : x.v ∉ seen) : canonI (varsStep seen x) x = ⟨(seen.length : Nat), x.name, x.ar⟩ := by
  unfold canonI; rw [if_pos h, varsStep_new h hn, idxN_snoc _ _ _ hn]
theorem canonI_seen {seen : List Int} {x : TyI} (h : varB x = true) (hn : x.v ∈ seen) : canonI (varsStep seen x) x = ⟨(idxN seen x.v : Nat), x.name, x.ar⟩ := by
  unfold canonI; rw [if_pos h, varsStep_old (fun _ => hn)]
theorem canonI_con (vs : List Int) {x : TyI} (h : varB x = false) : canonI vs x = x := by unfold canonI; rw [h]; rfl
end Go.Proofs.Ytngobmjdbjlkcaa
