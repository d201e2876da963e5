import Derived.Test.YtngobmjdbjlkcaaTyM
import Derived.Test.YtngobmjdbjlkcaaHTyOk
import Derived.Test.YtngobmjdbjlkcaaGx
/- Variables of a type in the order of their first occurrence; the canonical type: plain. -/
namespace Go.Proofs.Ytngobmjdbjlkcaa
set_option linter.unusedVariables false
set_option linter.unusedSimpArgs false
def varB (x : TyI) : Bool := x.name.toList.isEmpty
/-- the place of a number in a list; its length where there is none. -/
def idxN : List Int → Int → Nat
  | [], _ => 0
  | y :: l, x => if y = x then 0 else idxN l x + 1
theorem idxN_le : ∀ (l : List Int) (x : Int), idxN l x ≤ l.length
  | [], _ => Nat.le_refl _
  | y :: l, x => by
    rw [idxN]
    split
    · simp
    · have := idxN_le l x
      simp; omega
theorem idxN_lt : ∀ (l : List Int) (x : Int), idxN l x < l.length ↔ x ∈ l
  | [], x => by simp [idxN]
  | y :: l, x => by
    rw [idxN]
    split
    · rename_i h; subst h; simp
    · rename_i h
      have := idxN_lt l x
      rw [List.mem_cons]
      constructor
      · intro q
        exact .inr (this.1 (by simpa using q))
      · rintro (rfl | q)
        · exact absurd rfl h
        · have := this.2 q
          simpa using this
theorem idxN_app : ∀ (l t : List Int) (x : Int), x ∈ l → idxN (l ++ t) x = idxN l x
  | [], t, x, h => by cases h
  | y :: l, t, x, h => by
    rw [List.cons_append, idxN, idxN]
    split
    · rfl
    · rename_i hne
      rw [idxN_app l t x (by rcases List.mem_cons.1 h with rfl | h; exact absurd rfl hne; exact h)]
theorem idxN_snoc : ∀ (l t : List Int) (x : Int), x ∉ l → idxN (l ++ x :: t) x = l.length
  | [], t, x, h => by simp [idxN]
  | y :: l, t, x, h => by
    rw [List.cons_append, idxN, if_neg (fun e => h (by rw [e]; simp)), idxN_snoc l t x (fun q => h (by simp [q]))]; rfl
theorem idxN_at : ∀ (l : List Int) (x : Int) (k : Nat) (h : k < l.length), l[k] = x → (∀ j (hj : j < k), l[j]'(by omega) ≠ x) → idxN l x = k
  | [], x, k, h, _, _ => by simp at h
  | y :: l, x, 0, _, e, _ => by rw [idxN, if_pos (by simpa using e)]
  | y :: l, x, k + 1, h, e, hn => by
    rw [idxN, if_neg (show ¬ y = x from hn 0 (by omega)), idxN_at l x k (by simpa using h) (by simpa using e) (fun j hj => by have := hn (j + 1) (by omega); simpa using this)]
theorem idxN_no : ∀ (l : List Int) (x : Int), (∀ j (hj : j < l.length), l[j] ≠ x) → idxN l x = l.length
  | [], x, _ => rfl
  | y :: l, x, hn => by
    rw [idxN, if_neg (show ¬ y = x from hn 0 (by simp)), idxN_no l x (fun j hj => by have := hn (j + 1) (by simpa using hj); simpa using this)]; rfl
/-- one item more. -/
def varsStep (seen : List Int) (x : TyI) : List Int := if varB x = true ∧ x.v ∉ seen then seen ++ [x.v] else seen
def varsM (xs : List TyI) : List Int := xs.foldl varsStep []
theorem varsM_take (xs : List TyI) (k : Nat) (h : k < xs.length) : varsM (xs.take (k + 1)) = varsStep (varsM (xs.take k)) xs[k] := by
  unfold varsM
  rw [List.take_succ_eq_append_getElem h, List.foldl_append]; rfl
theorem varsStep_new {seen : List Int} {x : TyI} (h : varB x = true) (hn : x.v ∉ seen) : varsStep seen x = seen ++ [x.v] := by unfold varsStep; rw [if_pos ⟨h, hn⟩]
theorem varsStep_old {seen : List Int} {x : TyI} (h : varB x = true → x.v ∈ seen) : varsStep seen x = seen := by unfold varsStep; rw [if_neg (fun q => q.2 (h q.1))]
theorem varsStep_pre (seen : List Int) (x : TyI) : ∃ t, varsStep seen x = seen ++ t := by
  unfold varsStep
  split
  · exact ⟨_, rfl⟩
  · exact ⟨[], by simp⟩
theorem fold_pre : ∀ (l : List TyI) (s : List Int), ∃ t, l.foldl varsStep s = s ++ t
  | [], s => ⟨[], by simp⟩
  | x :: l, s => by
    obtain ⟨t, ht⟩ := varsStep_pre s x
    obtain ⟨u, hu⟩ := fold_pre l (varsStep s x)
    exact ⟨t ++ u, by rw [List.foldl_cons, hu, ht, List.append_assoc]⟩
theorem varsM_pre (xs : List TyI) (k : Nat) : ∃ t, varsM xs = varsM (xs.take k) ++ t := by
  obtain ⟨t, ht⟩ := fold_pre (xs.drop k) (varsM (xs.take k))
  refine ⟨t, ?_⟩
  rw [← ht]
  unfold varsM
  rw [← List.foldl_append, List.take_append_drop]
theorem varsM_len (xs : List TyI) : ∀ k, k ≤ xs.length → (varsM (xs.take k)).length ≤ k
  | 0, _ => by simp [varsM]
  | k + 1, h => by
    rw [varsM_take xs k (by omega)]
    have := varsM_len xs k (by omega)
    unfold varsStep
    split
    · rw [List.length_append]; simpa using this
    · omega
theorem varsM_len' (xs : List TyI) : (varsM xs).length ≤ xs.length := by have := varsM_len xs xs.length (Nat.le_refl _); rwa [List.take_length] at this
theorem varsM_mem (xs : List TyI) : ∀ k, k ≤ xs.length → ∀ v, v ∈ varsM (xs.take k) ↔ ∃ j, ∃ h : j < xs.length, j < k ∧ varB xs[j] = true ∧ xs[j].v = v
  | 0, _, v => by simp [varsM]
  | k + 1, h, v => by
    rw [varsM_take xs k (by omega)]
    have ih := varsM_mem xs k (by omega) v
    have key : v ∈ varsStep (varsM (xs.take k)) xs[k] ↔ v ∈ varsM (xs.take k) ∨ (varB xs[k] = true ∧ xs[k].v = v) := by
      unfold varsStep
      by_cases hb : varB xs[k] = true
      · by_cases hm : xs[k].v ∈ varsM (xs.take k)
        · rw [if_neg (fun q => q.2 hm)]
          constructor
          · exact .inl
          · rintro (q | ⟨_, rfl⟩)
            · exact q
            · exact hm
        · rw [if_pos ⟨hb, hm⟩, List.mem_append, List.mem_singleton]
          constructor
          · rintro (q | rfl)
            · exact .inl q
            · exact .inr ⟨hb, rfl⟩
          · rintro (q | ⟨_, rfl⟩)
            · exact .inl q
            · exact .inr rfl
      · rw [if_neg (fun q => hb q.1)]
        constructor
        · exact .inl
        · rintro (q | q)
          · exact q
          · exact absurd q.1 hb
    rw [key, ih]
    constructor
    · rintro (⟨j, h1, h2, h3, h4⟩ | ⟨h3, h4⟩)
      · exact ⟨j, h1, by omega, h3, h4⟩
      · exact ⟨k, by omega, by omega, h3, h4⟩
    · rintro ⟨j, h1, h2, h3, h4⟩
      rcases Nat.lt_or_ge j k with q | q
      · exact .inl ⟨j, h1, q, h3, h4⟩
      · obtain rfl : j = k := by omega
        exact .inr ⟨h3, h4⟩
theorem varsM_mem' (xs : List TyI) (v : Int) : v ∈ varsM xs ↔ ∃ x ∈ xs, varB x = true ∧ x.v = v := by
  have := varsM_mem xs xs.length (Nat.le_refl _) v
  rw [List.take_length] at this
  rw [this]
  constructor
  · rintro ⟨j, h1, _, h3, h4⟩
    exact ⟨_, List.getElem_mem h1, h3, h4⟩
  · rintro ⟨x, hx, h3, h4⟩
    obtain ⟨j, hj, rfl⟩ := List.getElem_of_mem hx
    exact ⟨j, hj, hj, h3, h4⟩
/-- one item of the canonical type. -/
def canonI (vs : List Int) (x : TyI) : TyI := if varB x then ⟨(idxN vs x.v : Nat), x.name, x.ar⟩ else x
def canonM (xs : List TyI) : List TyI := xs.map (canonI (varsM xs))
theorem canonM_at (xs : List TyI) (k : Nat) (h : k < xs.length) : (canonM xs)[k]'(by unfold canonM; simpa using h) = canonI (varsM xs) xs[k] := by unfold canonM; simp
/-- as the reference's walk finds it. -/
theorem canonI_old (xs : List TyI) (k : Nat) (h : k < xs.length) : canonI (varsM xs) xs[k] = canonI (varsM (xs.take (k + 1))) xs[k] := by
  unfold canonI
  split
  · rename_i hb
    obtain ⟨t, ht⟩ := varsM_pre xs (k + 1)
    rw [ht, idxN_app _ _ _ ((varsM_mem xs (k + 1) (by omega) _).2 ⟨k, h, by omega, hb, rfl⟩)]
  · rfl
theorem canonI_new {seen : List Int} {x : TyI} (h : varB x = true) (hn : x.v ∉ seen) : canonI (varsStep seen x) x = ⟨(seen.length : Nat), x.name, x.ar⟩ := by
  unfold canonI; rw [if_pos h, varsStep_new h hn, idxN_snoc _ _ _ hn]
theorem canonI_seen {seen : List Int} {x : TyI} (h : varB x = true) (hn : x.v ∈ seen) : canonI (varsStep seen x) x = ⟨(idxN seen x.v : Nat), x.name, x.ar⟩ := by
  unfold canonI; rw [if_pos h, varsStep_old (fun _ => hn)]
theorem canonI_con (vs : List Int) {x : TyI} (h : varB x = false) : canonI vs x = x := by unfold canonI; rw [h]; rfl
end Go.Proofs.Ytngobmjdbjlkcaa

/- Sorted variables: plain. -/

namespace Go.Proofs.Ytngobmjdbjlkcaa
set_option linter.unusedVariables false
set_option linter.unusedSimpArgs false
/-- put in ahead of the first greater one. -/
def ins (n : Int) : List Int → List Int
  | [] => [n]
  | x :: l => if n < x then n :: x :: l else x :: ins n l
def putM (l : List Int) (n : Int) : List Int := if n ∈ l then l else ins n l
def bigB (n : Int) (l : List Int) : Bool := l.any fun x => decide (n < x)
theorem ins_low (n : Int) : ∀ (t r : List Int), bigB n t = false → ins n (t ++ r) = t ++ ins n r
  | [], r, _ => rfl
  | x :: t, r, h => by
    unfold bigB at h
    rw [List.any_cons, Bool.or_eq_false_iff] at h
    rw [List.cons_append, ins, if_neg (by simpa using h.1), ins_low n t r h.2]; rfl
theorem ins_high (n : Int) : ∀ (t r : List Int), bigB n t = true → ins n (t ++ r) = ins n t ++ r
  | [], r, h => by cases h
  | x :: t, r, h => by
    by_cases q : n < x
    · rw [List.cons_append, ins, if_pos q, ins, if_pos q]; rfl
    · unfold bigB at h
      rw [List.any_cons, decide_eq_false q, Bool.false_or] at h
      rw [List.cons_append, ins, if_neg q, ins, if_neg q, ins_high n t r h]; rfl
theorem bigB_snoc (n : Int) (t : List Int) (x : Int) : bigB n (t ++ [x]) = (bigB n t || decide (n < x)) := by unfold bigB; rw [List.any_append]; simp
/-- what is laid after k numbers. -/
def putO (l : List Int) (n : Int) (k : Nat) : List Int := if bigB n (l.take k) then ins n (l.take k) else l.take k
theorem putO_zero (l : List Int) (n : Int) : putO l n 0 = [] := by unfold putO bigB; simp
theorem putO_done (l : List Int) (n : Int) (k : Nat) (h : k < l.length) (hb : bigB n (l.take k) = true) : putO l n (k + 1) = putO l n k ++ [l[k]] ∧ bigB n (l.take (k + 1)) = true := by
  have e : l.take (k + 1) = l.take k ++ [l[k]] := List.take_succ_eq_append_getElem h
  have hb2 : bigB n (l.take (k + 1)) = true := by rw [e, bigB_snoc, hb]; rfl
  refine ⟨?_, hb2⟩
  unfold putO
  rw [if_pos hb2, if_pos hb, e, ins_high n _ _ hb]
theorem putO_now (l : List Int) (n : Int) (k : Nat) (h : k < l.length) (hb : bigB n (l.take k) = false) (hn : n < l[k]) : putO l n (k + 1) = putO l n k ++ [n] ++ [l[k]] ∧ bigB n (l.take (k + 1)) = true := by
  have e : l.take (k + 1) = l.take k ++ [l[k]] := List.take_succ_eq_append_getElem h
  have hb2 : bigB n (l.take (k + 1)) = true := by rw [e, bigB_snoc, hb, decide_eq_true hn]; rfl
  refine ⟨?_, hb2⟩
  unfold putO
  rw [if_pos hb2, if_neg (by rw [hb]; simp), e, ins_low n _ _ hb]
  have : ins n [l[k]] = [n, l[k]] := by unfold ins; rw [if_pos hn]
  rw [this]; simp
theorem putO_not (l : List Int) (n : Int) (k : Nat) (h : k < l.length) (hb : bigB n (l.take k) = false) (hn : ¬ n < l[k]) : putO l n (k + 1) = putO l n k ++ [l[k]] ∧ bigB n (l.take (k + 1)) = false := by
  have e : l.take (k + 1) = l.take k ++ [l[k]] := List.take_succ_eq_append_getElem h
  have hb2 : bigB n (l.take (k + 1)) = false := by rw [e, bigB_snoc, hb, decide_eq_false hn]; rfl
  refine ⟨?_, hb2⟩
  unfold putO
  rw [if_neg (by rw [hb2]; simp), if_neg (by rw [hb]; simp), e]
theorem putO_len (l : List Int) (n : Int) (k : Nat) : (putO l n k).length ≤ l.length + 1 := by
  have key : ∀ t : List Int, (ins n t).length = t.length + 1 := by
    intro t
    induction t with
    | nil => rfl
    | cons x t ih =>
      unfold ins
      split
      · simp
      · simp [ih]
  unfold putO
  split
  · rw [key, List.length_take]; omega
  · rw [List.length_take]; omega
theorem putM_end1 (l : List Int) (n : Int) (hn : n ∉ l) (hb : bigB n (l.take l.length) = true) : putM l n = putO l n l.length := by
  unfold putM putO
  rw [if_neg hn, if_pos hb, List.take_length]
theorem putM_end0 (l : List Int) (n : Int) (hn : n ∉ l) (hb : bigB n (l.take l.length) = false) : putM l n = putO l n l.length ++ [n] := by
  unfold putM putO
  rw [if_neg hn, if_neg (by rw [hb]; simp)]
  rw [List.take_length] at hb ⊢
  have := ins_low n l [] hb
  rw [List.append_nil] at this
  rw [this]; rfl
theorem mem_ins (n : Int) : ∀ (l : List Int) (x : Int), x ∈ ins n l ↔ x = n ∨ x ∈ l
  | [], x => by simp [ins]
  | y :: l, x => by
    unfold ins
    split
    · simp
    · rw [List.mem_cons, mem_ins n l x, List.mem_cons]
      constructor
      · rintro (h | h | h) <;> simp [h]
      · rintro (h | h | h) <;> simp [h]
theorem mem_putM (l : List Int) (n x : Int) : x ∈ putM l n ↔ x = n ∨ x ∈ l := by
  unfold putM
  split
  · rename_i h
    constructor
    · exact .inr
    · rintro (rfl | q)
      · exact h
      · exact q
  · exact mem_ins n l x
/-- rising. -/
abbrev Rises (l : List Int) : Prop := l.Pairwise (· < ·)
theorem ins_rises (n : Int) : ∀ l : List Int, Rises l → n ∉ l → Rises (ins n l)
  | [], _, _ => by simp [ins]
  | y :: l, h, hn => by
    have h := List.pairwise_cons.1 h
    unfold ins
    split
    · rename_i q
      refine List.pairwise_cons.2 ⟨fun z hz => ?_, List.pairwise_cons.2 h⟩
      rcases List.mem_cons.1 hz with rfl | hz
      · exact q
      · have := h.1 z hz; omega
    · rename_i q
      refine List.pairwise_cons.2 ⟨fun z hz => ?_, ins_rises n l h.2 (fun m => hn (by simp [m]))⟩
      rcases (mem_ins n l z).1 hz with rfl | hz
      · have : ¬ y = z := fun e => hn (by simp [e])
        omega
      · exact h.1 z hz
theorem putM_rises (l : List Int) (n : Int) (h : Rises l) : Rises (putM l n) := by
  unfold putM
  split
  · exact h
  · rename_i q; exact ins_rises n l h q
/-- the reference's variables, rising. -/
def sortStep (l : List Int) (x : TyI) : List Int := if varB x then putM l x.v else l
def sortM (xs : List TyI) : List Int := xs.foldl sortStep []
theorem sortM_take (xs : List TyI) (k : Nat) (h : k < xs.length) : sortM (xs.take (k + 1)) = sortStep (sortM (xs.take k)) xs[k] := by
  unfold sortM
  rw [List.take_succ_eq_append_getElem h, List.foldl_append]; rfl
theorem fold_sort : ∀ (xs : List TyI) (l m : List Int), (∀ v, v ∈ l ↔ v ∈ m) → Rises l → (∀ v, v ∈ xs.foldl sortStep l ↔ v ∈ xs.foldl varsStep m) ∧ Rises (xs.foldl sortStep l)
  | [], l, m, h, hr => ⟨h, hr⟩
  | x :: xs, l, m, h, hr => by
    rw [List.foldl_cons, List.foldl_cons]
    refine fold_sort xs _ _ (fun v => ?_) ?_
    · unfold sortStep varsStep
      cases hb : varB x
      · simp [h v]
      · by_cases q : x.v ∈ m
        · rw [if_pos rfl, if_neg (fun c => c.2 q), mem_putM, h v]
          constructor
          · rintro (rfl | c)
            · exact q
            · exact c
          · exact .inr
        · rw [if_pos rfl, if_pos ⟨rfl, q⟩, mem_putM, h v, List.mem_append, List.mem_singleton]
          constructor
          · rintro (c | c)
            · exact .inr c
            · exact .inl c
          · rintro (c | c)
            · exact .inr c
            · exact .inl c
    · unfold sortStep
      split
      · exact putM_rises _ _ hr
      · exact hr
theorem sortM_mem (xs : List TyI) (v : Int) : v ∈ sortM xs ↔ v ∈ varsM xs := (fold_sort xs [] [] (fun _ => Iff.rfl) List.Pairwise.nil).1 v
theorem sortM_rises (xs : List TyI) : Rises (sortM xs) := (fold_sort xs [] [] (fun _ => Iff.rfl) List.Pairwise.nil).2
theorem putM_len (l : List Int) (n : Int) : (putM l n).length ≤ l.length + 1 := by
  unfold putM
  split
  · omega
  · rename_i h
    by_cases hb : bigB n (l.take l.length) = true
    · have := putM_end1 l n h hb
      unfold putM at this
      rw [if_neg h] at this
      rw [this]; exact putO_len l n _
    · have hb' : bigB n (l.take l.length) = false := by simpa using hb
      rw [List.take_length] at hb'
      have := ins_low n l [] hb'
      rw [List.append_nil] at this
      rw [this]; simp [ins]
theorem sortM_len (xs : List TyI) : ∀ k, k ≤ xs.length → (sortM (xs.take k)).length ≤ k
  | 0, _ => by simp [sortM]
  | k + 1, h => by
    rw [sortM_take xs k (by omega)]
    have := sortM_len xs k (by omega)
    unfold sortStep
    split
    · have := putM_len (sortM (xs.take k)) xs[k].v; omega
    · omega
end Go.Proofs.Ytngobmjdbjlkcaa

/- Numbers in slices over the second engine: Index, Contains; the variables of a type. -/
namespace Go.Proofs.Ytngobmjdbjlkcaa
set_option linter.unusedVariables false
set_option linter.unusedSimpArgs false
open Go.RowKit
/-- the place of the first that has a property; -1 where there is none. -/
def fidx {α : Type} (p : α → Bool) : List α → Int
  | [] => -1
  | x :: l => if p x = true then 0 else if fidx p l < 0 then -1 else fidx p l + 1
theorem fidx_ge {α : Type} (p : α → Bool) : ∀ (l : List α), -1 ≤ fidx p l
  | [] => by simp [fidx]
  | x :: l => by
    have := fidx_ge p l
    rw [fidx]; split <;> (try split) <;> omega
theorem fidx_at {α : Type} (p : α → Bool) : ∀ (l : List α) (k : Nat) (h : k < l.length), (∀ x ∈ l.take k, p x = false) → p l[k] = true → fidx p l = k
  | x :: l, 0, _, _, hp => by
    have hp : p x = true := hp
    rw [fidx, if_pos hp]; rfl
  | x :: l, k + 1, h, hn, hp => by
    rw [fidx, if_neg (by rw [hn x (by simp)]; simp), fidx_at p l k (by simpa using h) (fun y hy => hn y (by simp [hy])) (by simpa using hp)]
    rw [if_neg (by omega)]; omega
theorem fidx_no {α : Type} (p : α → Bool) : ∀ (l : List α), (∀ x ∈ l, p x = false) → fidx p l = -1
  | [], _ => rfl
  | x :: l, h => by rw [fidx, if_neg (by rw [h x (by simp)]; simp), fidx_no p l (fun y hy => h y (by simp [hy]))]; rfl
theorem fidx_any {α : Type} (p : α → Bool) : ∀ (l : List α), decide (fidx p l ≥ 0) = l.any p
  | [] => rfl
  | x :: l => by
    rw [fidx, List.any_cons, ← fidx_any p l]
    by_cases h : p x = true
    · rw [if_pos h, h]; rfl
    · rw [if_neg h]
      have : p x = false := by simpa using h
      rw [this, Bool.false_or]
      have := fidx_ge p l
      by_cases q : fidx p l < 0
      · rw [if_pos q, decide_eq_false (by omega), decide_eq_false (by omega)]
      · rw [if_neg q, decide_eq_true (by omega), decide_eq_true (by omega)]
set_option maxRecDepth 100000 in
theorem c_Index_int (xs : List Int) (v : Int) : FCon Try.prog 138 [intsD xs, .s (.int .i64 v)] (fun r _ => r = .s (.int .i64 (fidx (fun x => v == x) xs))) := by
  refine FCon.intro PM _ Try.func138 (by kernel_rfl) rfl _ Try.ntmps138 rfl [] (by decide +kernel) (by simp) (by simp) rfl (by first | rfl | simp only [go_sem]) ?_
  refine AC_len 0 rfl trivial fun hlen => ?_
  simp only [List.length_map] at hlen
  (have hWf := f0; repeat' (first | refine zS ?_ | exact zE | with_reducible apply And.intro | ((with_reducible intro hb0); revert hb0; with_reducible first | exact zB0 | refine zB fun hb => ?_ | fail) | ((with_reducible apply q_Meet); exact zM) | exact zC | refine zT ?_ | fail))
  refine AC_loop (fun n σ => ∃ k : Nat, k ≤ xs.length ∧ n = xs.length - k ∧ σ.t 0 = intsD xs ∧ σ.t 1 = .s (.int .i64 v) ∧ σ.t 7 = .s (.int .i64 xs.length) ∧ σ.t 8 = .s (.int .i64 k) ∧ ∀ x ∈ xs.take k, (v == x) = false) xs.length ⟨0, by omega, by omega, ?_⟩ ?_
  · simp only [go_sem, simprocAttr, Int.natCast_zero]
    all_goals simp
  · rintro n σ ⟨k, hk, rfl, h0, h1, h7, h8, hno⟩ K' hK
    by_cases hlt : k < xs.length
    · have hx := getD_map iE xs k hlt
      have he := iE_eq xs[k]
      by_cases hp : v = xs[k]
      · have hp' : (v == xs[k]) = true := by simpa using hp
        (have hWf := WFx.mk (And.intro @h0 <| And.intro @h1 <| And.intro @h7 <| And.intro @h8 <| And.intro @hx <| And.intro @he <| @hp'); repeat' (first | refine zS ?_ | exact zE | with_reducible apply And.intro | ((with_reducible intro hb0); revert hb0; with_reducible first | exact zB0 | refine zB fun hb => ?_ | fail) | ((with_reducible apply q_Meet); exact zM) | exact zC | refine zT ?_ | fail))
        exact sI_congr (by rw [fidx_at (fun x => v == x) xs k hlt hno hp'])
      · have hp' : (v == xs[k]) = false := by simpa using hp
        (have hWf := WFx.mk (And.intro @h0 <| And.intro @h1 <| And.intro @h7 <| And.intro @h8 <| And.intro @hx <| And.intro @he <| @hp'); repeat' (first | refine zS ?_ | exact zE | with_reducible apply And.intro | ((with_reducible intro hb0); revert hb0; with_reducible first | exact zB0 | refine zB fun hb => ?_ | fail) | ((with_reducible apply q_Meet); exact zM) | exact zC | refine zT ?_ | fail))
        refine hK (xs.length - (k + 1)) _ (by omega) ⟨k + 1, by omega, rfl, ?_⟩
        simp only [go_sem, simprocAttr, h0, h1, h7, Int.natCast_succ]
        intro x hx
        rw [List.take_succ_eq_append_getElem hlt] at hx
        rcases List.mem_append.1 hx with hx | hx
        · exact hno x hx
        · simp at hx; rw [hx]; exact hp'
    · obtain rfl : k = xs.length := by omega
      (have hWf := WFx.mk (And.intro @h0 <| And.intro @h1 <| And.intro @h7 <| @h8); repeat' (first | refine zS ?_ | exact zE | with_reducible apply And.intro | ((with_reducible intro hb0); revert hb0; with_reducible first | exact zB0 | refine zB fun hb => ?_ | fail) | ((with_reducible apply q_Meet); exact zM) | exact zC | refine zT ?_ | fail))
      exact sI_congr (by rw [fidx_no (fun x => v == x) xs (by simpa using hno)])
theorem idx_mem (xs : List Int) (v : Int) : decide (fidx (fun x => v == x) xs ≥ 0) = decide (v ∈ xs) := by
  rw [fidx_any, Bool.eq_iff_iff, List.any_eq_true]
  simp
set_option maxRecDepth 100000 in
theorem c_Contains_int (xs : List Int) (v : Int) : FCon Try.prog 134 [intsD xs, .s (.int .i64 v)] (fun r _ => r = .s (.bool (decide (v ∈ xs)))) := by
  refine FCon.intro PM _ Try.func134 (by kernel_rfl) rfl _ Try.ntmps134 rfl [] (by decide +kernel) (by simp) (by simp) rfl (by first | rfl | simp only [go_sem]) ?_
  (have hWf := f0; repeat' (first | refine zS ?_ | exact zE | with_reducible apply And.intro | refine zK (c_Index_int xs v) ?_ | ((with_reducible intro hb0); revert hb0; with_reducible first | exact zB0 | refine zB fun hb => ?_ | fail) | ((with_reducible apply q_Meet); exact zM) | exact zC | refine zT ?_ | fail))
  exact sB (idx_mem xs v)
set_option maxRecDepth 100000 in
theorem c_varsIn (xs : List TyI) (hl : xs.length ≤ 1000000000) : FCon Try.prog 93 [.sl 3 (xs.map TyI.enc)] (fun r _ => r = .osl 3 1 ((varsM xs).map iE)) := by
  refine FCon.intro PM _ Try.func93 (by kernel_rfl) rfl _ Try.ntmps93 rfl [] (by decide +kernel) (by simp) (by simp) rfl (by first | rfl | simp only [go_sem]) ?_
  (have hWf := f0; repeat' (first | refine zS ?_ | exact zE | with_reducible apply And.intro | ((with_reducible intro hb0); revert hb0; with_reducible first | exact zB0 | refine zB fun hb => ?_ | fail) | ((with_reducible apply q_Meet); exact zM) | exact zC | refine zT ?_ | fail))
  refine AC_loop (fun n σ => ∃ k : Nat, k ≤ xs.length ∧ n = xs.length - k ∧ σ.t 3 = .bs 6 1 (varsM (xs.take k)).length ∧ σ.b 6 = some (.arr 3 1 ((varsM (xs.take k)).map iE)) ∧ σ.t 7 = .sl 3 (xs.map TyI.enc) ∧ σ.t 8 = .s (.int .i64 xs.length) ∧ σ.t 9 = .s (.int .i64 k)) xs.length ⟨0, by omega, by omega, ?_⟩ ?_
  · simp only [go_sem, simprocAttr, Int.natCast_zero]
    simp [varsM]
  · rintro n σ ⟨k, hk, rfl, h3, h6, h7, h8, h9⟩ K' hK
    by_cases hlt : k < xs.length
    · have hx := getD_map TyI.enc xs k hlt
      have he := TyI.enc_eq xs[k]
      have hvl := varsM_len xs k hk
      by_cases hb : varB xs[k] = true ∧ xs[k].v ∉ varsM (xs.take k)
      · have e1 : (xs[k].name.toList == []) = true := by have := hb.1; unfold varB at this; simpa using this
        have e2 : decide (xs[k].v ∈ varsM (xs.take k)) = false := decide_eq_false hb.2
        have e3 := varsM_take xs k hlt
        rw [varsStep_new hb.1 hb.2] at e3
        (have hWf := WFx.mk (And.intro @h3 <| And.intro @h6 <| And.intro @h7 <| And.intro @h8 <| And.intro @h9 <| And.intro @hx <| And.intro @he <| And.intro @lit0 <| And.intro @e1 <| @e2); repeat' (first | refine zS ?_ | exact zE | with_reducible apply And.intro | refine zK (c_Contains_int (varsM (xs.take k)) xs[k].v) ?_ | ((with_reducible intro hb0); revert hb0; with_reducible first | exact zB0 | refine zB fun hb => ?_ | fail) | ((with_reducible apply q_Meet); exact zM) | exact zC | refine zT ?_ | fail))
        refine hK (xs.length - (k + 1)) _ (by omega) ⟨k + 1, by omega, rfl, ?_⟩
        simp only [go_sem, simprocAttr, h3, h6, h7, h8, h9, Int.natCast_succ, e3, List.map_append, iE_eq]
      · have e3 := varsM_take xs k hlt
        rw [varsStep_old (fun q => by simpa [q] using hb)] at e3
        by_cases q : varB xs[k] = true
        · have e1 : (xs[k].name.toList == []) = true := by unfold varB at q; simpa using q
          have e2 : decide (xs[k].v ∈ varsM (xs.take k)) = true := by simpa [q] using hb
          (have hWf := WFx.mk (And.intro @h3 <| And.intro @h6 <| And.intro @h7 <| And.intro @h8 <| And.intro @h9 <| And.intro @hx <| And.intro @he <| And.intro @lit0 <| And.intro @e1 <| @e2); repeat' (first | refine zS ?_ | exact zE | with_reducible apply And.intro | refine zK (c_Contains_int (varsM (xs.take k)) xs[k].v) ?_ | ((with_reducible intro hb0); revert hb0; with_reducible first | exact zB0 | refine zB fun hb => ?_ | fail) | ((with_reducible apply q_Meet); exact zM) | exact zC | refine zT ?_ | fail))
          refine hK (xs.length - (k + 1)) _ (by omega) ⟨k + 1, by omega, rfl, ?_⟩
          simp only [go_sem, simprocAttr, h3, h6, h7, h8, h9, Int.natCast_succ, e3]
        · have e1 : (xs[k].name.toList == []) = false := by unfold varB at q; simpa using q
          (have hWf := WFx.mk (And.intro @h3 <| And.intro @h6 <| And.intro @h7 <| And.intro @h8 <| And.intro @h9 <| And.intro @hx <| And.intro @he <| And.intro @lit0 <| @e1); repeat' (first | refine zS ?_ | exact zE | with_reducible apply And.intro | refine zK (c_Contains_int (varsM (xs.take k)) xs[k].v) ?_ | ((with_reducible intro hb0); revert hb0; with_reducible first | exact zB0 | refine zB fun hb => ?_ | fail) | ((with_reducible apply q_Meet); exact zM) | exact zC | refine zT ?_ | fail))
          refine hK (xs.length - (k + 1)) _ (by omega) ⟨k + 1, by omega, rfl, ?_⟩
          simp only [go_sem, simprocAttr, h3, h6, h7, h8, h9, Int.natCast_succ, e3]
    · obtain rfl : k = xs.length := by omega
      rw [List.take_length] at h3 h6
      (have hWf := WFx.mk (And.intro @h3 <| And.intro @h6 <| And.intro @h7 <| And.intro @h8 <| @h9); repeat' (first | refine zS ?_ | exact zE | with_reducible apply And.intro | ((with_reducible intro hb0); revert hb0; with_reducible first | exact zB0 | refine zB fun hb => ?_ | fail) | ((with_reducible apply q_Meet); exact zM) | exact zC | refine zT ?_ | fail))
end Go.Proofs.Ytngobmjdbjlkcaa

/- Sorted variables of the reference, over the second engine. -/
namespace Go.Proofs.Ytngobmjdbjlkcaa
set_option linter.unusedVariables false
set_option linter.unusedSimpArgs false
open Go.RowKit
attribute [go_sem] frA
set_option maxRecDepth 100000 in
theorem c_l05Has (xs : List Int) (v : Int) : FCon Try.prog 111 [intsD xs, .s (.int .i64 v)] (fun r _ => r = .s (.bool (decide (v ∈ xs)))) := by
  refine FCon.intro PM _ Try.func111 (by kernel_rfl) rfl _ Try.ntmps111 rfl [] (by decide +kernel) (by simp) (by simp) rfl (by first | rfl | simp only [go_sem]) ?_
  refine AC_len 0 rfl trivial fun hlen => ?_
  simp only [List.length_map] at hlen
  (have hWf := f0; repeat' (first | refine zS ?_ | exact zE | with_reducible apply And.intro | ((with_reducible intro hb0); revert hb0; with_reducible first | exact zB0 | refine zB fun hb => ?_ | fail) | ((with_reducible apply q_Meet); exact zM) | exact zC | refine zT ?_ | fail))
  refine AC_loop (fun n σ => ∃ k : Nat, k ≤ xs.length ∧ n = xs.length - k ∧ σ.t 1 = .s (.int .i64 v) ∧ σ.t 7 = intsD xs ∧ σ.t 8 = .s (.int .i64 xs.length) ∧ σ.t 9 = .s (.int .i64 k) ∧ ∀ x ∈ xs.take k, x ≠ v) xs.length ⟨0, by omega, by omega, ?_⟩ ?_
  · simp only [go_sem, simprocAttr, Int.natCast_zero]
    all_goals simp
  · rintro n σ ⟨k, hk, rfl, h1, h7, h8, h9, hno⟩ K' hK
    by_cases hlt : k < xs.length
    · have hx := getD_map iE xs k hlt
      have he := iE_eq xs[k]
      (have hWf := WFx.mk (And.intro @h1 <| And.intro @h7 <| And.intro @h8 <| And.intro @h9 <| And.intro @hx <| @he); repeat' (first | refine zS ?_ | exact zE | with_reducible apply And.intro | ((with_reducible intro hb0); revert hb0; with_reducible first | exact zB0 | refine zB fun hb => ?_ | fail) | ((with_reducible apply q_Meet); exact zM) | exact zC | refine zT ?_ | fail))
      · exact sB (decide_eq_true (by rw [← hb]; exact List.getElem_mem hlt)).symm
      · refine hK (xs.length - (k + 1)) _ (by omega) ⟨k + 1, by omega, rfl, ?_⟩
        simp only [go_sem, simprocAttr, h1, h7, h8, Int.natCast_succ]
        intro x hx
        rw [List.take_succ_eq_append_getElem hlt] at hx
        rcases List.mem_append.1 hx with hx | hx
        · exact hno x hx
        · simp at hx; rw [hx]; exact hb
    · obtain rfl : k = xs.length := by omega
      (have hWf := WFx.mk (And.intro @h1 <| And.intro @h7 <| And.intro @h8 <| @h9); repeat' (first | refine zS ?_ | exact zE | with_reducible apply And.intro | ((with_reducible intro hb0); revert hb0; with_reducible first | exact zB0 | refine zB fun hb => ?_ | fail) | ((with_reducible apply q_Meet); exact zM) | exact zC | refine zT ?_ | fail))
      exact sB (decide_eq_false (fun q => hno v (by simpa using q) rfl)).symm
set_option maxRecDepth 100000 in
set_option maxHeartbeats 1000000 in
theorem c_l05Put (xs : List Int) (v : Int) (hl : xs.length ≤ 1048576) : FCon Try.prog 133 [intsD xs, .s (.int .i64 v)] (fun r _ => r = intsD (putM xs v)) := by
  refine FCon.ice ?_
  refine FCon.intro PM _ Try.func133 (by kernel_rfl) rfl _ Try.ntmps133 rfl [] (by decide +kernel) (by simp) (by simp) rfl (by first | rfl | simp only [go_sem]) ?_
  (have hWf := f0; repeat' (first | refine zS ?_ | exact zE | with_reducible apply And.intro | ((with_reducible intro hb0); revert hb0; with_reducible first | exact zB0 | refine zB fun hb => ?_ | fail) | ((with_reducible apply q_Meet); exact zM) | exact zC | refine zT ?_ | fail))
  refine AC_loop (fun n σ => ∃ k : Nat, k ≤ xs.length ∧ n = xs.length - k ∧ σ.t 0 = intsD xs ∧ σ.t 1 = .s (.int .i64 v) ∧ σ.t 5 = .bs 9 1 (putO xs v k).length ∧ σ.b 9 = some (.arr 3 1 ((putO xs v k).map iE)) ∧ σ.t 6 = .s (.bool (bigB v (xs.take k))) ∧ σ.t 10 = intsD xs ∧ σ.t 11 = .s (.int .i64 xs.length) ∧ σ.t 12 = .s (.int .i64 k) ∧ ∀ x ∈ xs.take k, x ≠ v) xs.length ⟨0, by omega, by omega, ?_⟩ ?_
  · simp only [go_sem, simprocAttr, Int.natCast_zero, putO_zero, List.take_zero, bigB, List.any_nil]
    all_goals simp
  · rintro n σ ⟨k, hk, rfl, h0, h1, h5, h9, h6, h10, h11, h12, hno⟩ K' hK
    have hpl := putO_len xs v k
    by_cases hlt : k < xs.length
    · have hx := getD_map iE xs k hlt
      have he := iE_eq xs[k]
      by_cases hp : xs[k] = v
      · have hp' : (xs[k] == v) = true := by simpa using hp
        (have hWf := WFx.mk (And.intro @h0 <| And.intro @h1 <| And.intro @h5 <| And.intro @h9 <| And.intro @h6 <| And.intro @h10 <| And.intro @h11 <| And.intro @h12 <| And.intro @hx <| And.intro @he <| @hp'); repeat' (first | refine zS ?_ | exact zE | with_reducible apply And.intro | ((with_reducible intro hb0); revert hb0; with_reducible first | exact zB0 | refine zB fun hb => ?_ | fail) | ((with_reducible apply q_Meet); exact zM) | exact zC | refine zT ?_ | fail))
        rw [show putM xs v = xs by unfold putM; rw [if_pos (by rw [← hp]; exact List.getElem_mem hlt)]]
      · have hp' : (xs[k] == v) = false := by simpa using hp
        have hno' : ∀ x ∈ xs.take (k + 1), x ≠ v := by
          intro x hx
          rw [List.take_succ_eq_append_getElem hlt] at hx
          rcases List.mem_append.1 hx with hx | hx
          · exact hno x hx
          · simp at hx; rw [hx]; exact hp
        cases hq : bigB v (xs.take k) with
        | true =>
          obtain ⟨q1, q2⟩ := putO_done xs v k hlt hq
          rw [hq] at h6
          (have hWf := WFx.mk (And.intro @h0 <| And.intro @h1 <| And.intro @h5 <| And.intro @h9 <| And.intro @h6 <| And.intro @h10 <| And.intro @h11 <| And.intro @h12 <| And.intro @hx <| And.intro @he <| @hp'); repeat' (first | refine zS ?_ | exact zE | with_reducible apply And.intro | ((with_reducible intro hb0); revert hb0; with_reducible first | exact zB0 | refine zB fun hb => ?_ | fail) | ((with_reducible apply q_Meet); exact zM) | exact zC | refine zT ?_ | fail))
          refine hK (xs.length - (k + 1)) _ (by omega) ⟨k + 1, by omega, rfl, ?_⟩
          simp only [go_sem, simprocAttr, h0, h1, h5, h9, h6, h10, h11, h12, Int.natCast_succ, q1, q2, List.map_append, iE_eq]
          exact hno'
        | false =>
          rw [hq] at h6
          by_cases hn : v < xs[k]
          · have hn' : decide (v < xs[k]) = true := decide_eq_true hn
            obtain ⟨q1, q2⟩ := putO_now xs v k hlt hq hn
            (have hWf := WFx.mk (And.intro @h0 <| And.intro @h1 <| And.intro @h5 <| And.intro @h9 <| And.intro @h6 <| And.intro @h10 <| And.intro @h11 <| And.intro @h12 <| And.intro @hx <| And.intro @he <| And.intro @hp' <| @hn'); repeat' (first | refine zS ?_ | exact zE | with_reducible apply And.intro | ((with_reducible intro hb0); revert hb0; with_reducible first | exact zB0 | refine zB fun hb => ?_ | fail) | ((with_reducible apply q_Meet); exact zM) | exact zC | refine zT ?_ | fail))
            refine hK (xs.length - (k + 1)) _ (by omega) ⟨k + 1, by omega, rfl, ?_⟩
            simp only [go_sem, simprocAttr, h0, h1, h5, h9, h6, h10, h11, h12, Int.natCast_succ, q1, q2, List.map_append, iE_eq]
            exact hno'
          · have hn' : decide (v < xs[k]) = false := decide_eq_false hn
            obtain ⟨q1, q2⟩ := putO_not xs v k hlt hq hn
            (have hWf := WFx.mk (And.intro @h0 <| And.intro @h1 <| And.intro @h5 <| And.intro @h9 <| And.intro @h6 <| And.intro @h10 <| And.intro @h11 <| And.intro @h12 <| And.intro @hx <| And.intro @he <| And.intro @hp' <| @hn'); repeat' (first | refine zS ?_ | exact zE | with_reducible apply And.intro | ((with_reducible intro hb0); revert hb0; with_reducible first | exact zB0 | refine zB fun hb => ?_ | fail) | ((with_reducible apply q_Meet); exact zM) | exact zC | refine zT ?_ | fail))
            refine hK (xs.length - (k + 1)) _ (by omega) ⟨k + 1, by omega, rfl, ?_⟩
            simp only [go_sem, simprocAttr, h0, h1, h5, h9, h6, h10, h11, h12, Int.natCast_succ, q1, q2, List.map_append, iE_eq]
            exact hno'
    · obtain rfl : k = xs.length := by omega
      have hni : v ∉ xs := fun q => hno v (by simpa using q) rfl
      cases hq : bigB v (xs.take xs.length) with
      | true =>
        rw [hq] at h6
        rw [putM_end1 xs v hni hq]
        (have hWf := WFx.mk (And.intro @h0 <| And.intro @h1 <| And.intro @h5 <| And.intro @h9 <| And.intro @h6 <| And.intro @h10 <| And.intro @h11 <| @h12); repeat' (first | refine zS ?_ | exact zE | with_reducible apply And.intro | ((with_reducible intro hb0); revert hb0; with_reducible first | exact zB0 | refine zB fun hb => ?_ | fail) | ((with_reducible apply q_Meet); exact zM) | exact zC | refine zT ?_ | fail))
      | false =>
        rw [hq] at h6
        rw [putM_end0 xs v hni hq]
        (have hWf := WFx.mk (And.intro @h0 <| And.intro @h1 <| And.intro @h5 <| And.intro @h9 <| And.intro @h6 <| And.intro @h10 <| And.intro @h11 <| @h12); repeat' (first | refine zS ?_ | exact zE | with_reducible apply And.intro | ((with_reducible intro hb0); revert hb0; with_reducible first | exact zB0 | refine zB fun hb => ?_ | fail) | ((with_reducible apply q_Meet); exact zM) | exact zC | refine zT ?_ | fail))
        simp only [intsD, List.map_append, List.map_cons, List.map_nil, iE_eq, frzL, Go.Proofs.Ytngobmjdbjlkcaa.frz]
set_option maxRecDepth 100000 in
set_option maxHeartbeats 1000000 in
theorem c_l05Vars (xs : List TyI) (hl : xs.length ≤ 1048576) : FCon Try.prog 92 [.ag [.sl 3 (xs.map TyI.enc)]] (fun r _ => r = intsD (sortM xs)) := by
  refine FCon.intro PM _ Try.func92 (by kernel_rfl) rfl _ Try.ntmps92 rfl [] (by decide +kernel) (by simp) (by simp) rfl (by first | rfl | simp only [go_sem]) ?_
  (have hWf := f0; repeat' (first | refine zS ?_ | exact zE | with_reducible apply And.intro | ((with_reducible intro hb0); revert hb0; with_reducible first | exact zB0 | refine zB fun hb => ?_ | fail) | ((with_reducible apply q_Meet); exact zM) | exact zC | refine zT ?_ | fail))
  refine ACL_ac (AC_fr 6 (.arr 3 1 []) (by simp only [go_sem, simprocAttr]) rfl (AC_go ?_))
  simp only [go_sem, simprocAttr]
  refine AC_loop (fun n σ => ∃ k : Nat, k ≤ xs.length ∧ n = xs.length - k ∧ σ.t 3 = intsD (sortM (xs.take k)) ∧ σ.t 8 = .sl 3 (xs.map TyI.enc) ∧ σ.t 9 = .s (.int .i64 xs.length) ∧ σ.t 10 = .s (.int .i64 k)) xs.length ⟨0, by omega, by omega, ?_⟩ ?_
  · simp only [go_sem, simprocAttr, Int.natCast_zero, List.take_zero, sortM, List.foldl_nil]
    rfl
  · rintro n σ ⟨k, hk, rfl, h3, h8, h9, h10⟩ K' hK
    by_cases hlt : k < xs.length
    · have hx := getD_map TyI.enc xs k hlt
      have he := TyI.enc_eq xs[k]
      have hvl := sortM_len xs k hk
      have hcc := c_l05Put (sortM (xs.take k)) xs[k].v (by omega)
      have e3 := sortM_take xs k hlt
      unfold sortStep at e3
      by_cases q : varB xs[k] = true
      · have e1 : (xs[k].name.toList == []) = true := by unfold varB at q; simpa using q
        rw [if_pos q] at e3
        (have hWf := WFx.mk (And.intro @h3 <| And.intro @h8 <| And.intro @h9 <| And.intro @h10 <| And.intro @hx <| And.intro @he <| And.intro @lit0 <| @e1); repeat' (first | refine zS ?_ | exact zE | with_reducible apply And.intro | refine zK (hcc) ?_ | ((with_reducible intro hb0); revert hb0; with_reducible first | exact zB0 | refine zB fun hb => ?_ | fail) | ((with_reducible apply q_Meet); exact zM) | exact zC | refine zT ?_ | fail))
        refine hK (xs.length - (k + 1)) _ (by omega) ⟨k + 1, by omega, rfl, ?_⟩
        simp only [go_sem, simprocAttr, h3, h8, h9, h10, Int.natCast_succ, e3]
      · have e1 : (xs[k].name.toList == []) = false := by unfold varB at q; simpa using q
        rw [if_neg q] at e3
        (have hWf := WFx.mk (And.intro @h3 <| And.intro @h8 <| And.intro @h9 <| And.intro @h10 <| And.intro @hx <| And.intro @he <| And.intro @lit0 <| @e1); repeat' (first | refine zS ?_ | exact zE | with_reducible apply And.intro | refine zK (hcc) ?_ | ((with_reducible intro hb0); revert hb0; with_reducible first | exact zB0 | refine zB fun hb => ?_ | fail) | ((with_reducible apply q_Meet); exact zM) | exact zC | refine zT ?_ | fail))
        refine hK (xs.length - (k + 1)) _ (by omega) ⟨k + 1, by omega, rfl, ?_⟩
        simp only [go_sem, simprocAttr, h3, h8, h9, h10, Int.natCast_succ, e3]
    · obtain rfl : k = xs.length := by omega
      rw [List.take_length] at h3
      (have hWf := WFx.mk (And.intro @h3 <| And.intro @h8 <| And.intro @h9 <| @h10); repeat' (first | refine zS ?_ | exact zE | with_reducible apply And.intro | ((with_reducible intro hb0); revert hb0; with_reducible first | exact zB0 | refine zB fun hb => ?_ | fail) | ((with_reducible apply q_Meet); exact zM) | exact zC | refine zT ?_ | fail))
end Go.Proofs.Ytngobmjdbjlkcaa
