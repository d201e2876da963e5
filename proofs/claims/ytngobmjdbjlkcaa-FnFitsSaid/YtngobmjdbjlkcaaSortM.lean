import Derived.Test.YtngobmjdbjlkcaaVarsM
/- Sorted variables: plain. -/

namespace Go.Proofs.Ytngobmjdbjlkcaa
set_option linter.unusedVariables false
set_option linter.unusedSimpArgs false
/-- put in ahead of the first greater one. -/
def ins (n : Int) : List Int → List Int
  | [] => [n]
  | x :: l => if n < x then n :: x :: l else x :: ins n l
def putM (l : List Int) (n : Int) : List Int := if n ∈ l then l else ins n l
def bigB (n : Int) (l : List Int) : Bool := l.any fun x => decide (n < x)
theorem ins_low (n : Int) : ∀ (t r : List Int), bigB n t = false → ins n (t ++ r) = t ++ ins n r
  | [], r, _ => rfl
  | x :: t, r, h => by
    unfold bigB at h
    rw [List.any_cons, Bool.or_eq_false_iff] at h
    rw [List.cons_append, ins, if_neg (by simpa using h.1), ins_low n t r h.2]; rfl
theorem ins_high (n : Int) : ∀ (t r : List Int), bigB n t = true → ins n (t ++ r) = ins n t ++ r
  | [], r, h => by cases h
  | x :: t, r, h => by
    by_cases q : n < x
    · rw [List.cons_append, ins, if_pos q, ins, if_pos q]; rfl
    · unfold bigB at h
      rw [List.any_cons, decide_eq_false q, Bool.false_or] at h
      rw [List.cons_append, ins, if_neg q, ins, if_neg q, ins_high n t r h]; rfl
theorem bigB_snoc (n : Int) (t : List Int) (x : Int) : bigB n (t ++ [x]) = (bigB n t || decide (n < x)) := by unfold bigB; rw [List.any_append]; simp
/-- what is laid after k numbers. -/
def putO (l : List Int) (n : Int) (k : Nat) : List Int := if bigB n (l.take k) then ins n (l.take k) else l.take k
theorem putO_zero (l : List Int) (n : Int) : putO l n 0 = [] := by unfold putO bigB; simp
theorem putO_done (l : List Int) (n : Int) (k : Nat) (h : k < l.length) (hb : bigB n (l.take k) = true) : putO l n (k + 1) = putO l n k ++ [l[k]] ∧ bigB n (l.take (k + 1)) = true := by
  have e : l.take (k + 1) = l.take k ++ [l[k]] := List.take_succ_eq_append_getElem h
  have hb2 : bigB n (l.take (k + 1)) = true := by rw [e, bigB_snoc, hb]; rfl
  refine ⟨?_, hb2⟩
  unfold putO
  rw [if_pos hb2, if_pos hb, e, ins_high n _ _ hb]
theorem putO_now (l : List Int) (n : Int) (k : Nat) (h : k < l.length) (hb : bigB n (l.take k) = false) (hn : n < l[k]) : putO l n (k + 1) = putO l n k ++ [n] ++ [l[k]] ∧ bigB n (l.take (k + 1)) = true := by
  have e : l.take (k + 1) = l.take k ++ [l[k]] := List.take_succ_eq_append_getElem h
  have hb2 : bigB n (l.take (k + 1)) = true := by rw [e, bigB_snoc, hb, decide_eq_true hn]; rfl
  refine ⟨?_, hb2⟩
  unfold putO
  rw [if_pos hb2, if_neg (by rw [hb]; simp), e, ins_low n _ _ hb]
  have : ins n [l[k]] = [n, l[k]] := by unfold ins; rw [if_pos hn]
  rw [this]; simp
theorem putO_not (l : List Int) (n : Int) (k : Nat) (h : k < l.length) (hb : bigB n (l.take k) = false) (hn : ¬ n < l[k]) : putO l n (k + 1) = putO l n k ++ [l[k]] ∧ bigB n (l.take (k + 1)) = false := by
  have e : l.take (k + 1) = l.take k ++ [l[k]] := List.take_succ_eq_append_getElem h
  have hb2 : bigB n (l.take (k + 1)) = false := by rw [e, bigB_snoc, hb, decide_eq_false hn]; rfl
  refine ⟨?_, hb2⟩
  unfold putO
  rw [if_neg (by rw [hb2]; simp), if_neg (by rw [hb]; simp), e]
theorem putO_len (l : List Int) (n : Int) (k : Nat) : (putO l n k).length ≤ l.length + 1 := by
  have key : ∀ t : List Int, (ins n t).length = t.length + 1 := by
    intro t
    induction t with
    | nil => rfl
    | cons x t ih =>
      unfold ins
      split
      · simp
      · simp [ih]
  unfold putO
  split
  · rw [key, List.length_take]; omega
  · rw [List.length_take]; omega
theorem putM_end1 (l : List Int) (n : Int) (hn : n ∉ l) (hb : bigB n (l.take l.length) = true) : putM l n = putO l n l.length := by
  unfold putM putO
  rw [if_neg hn, if_pos hb, List.take_length]
theorem putM_end0 (l : List Int) (n : Int) (hn : n ∉ l) (hb : bigB n (l.take l.length) = false) : putM l n = putO l n l.length ++ [n] := by
  unfold putM putO
  rw [if_neg hn, if_neg (by rw [hb]; simp)]
  rw [List.take_length] at hb ⊢
  have := ins_low n l [] hb
  rw [List.append_nil] at this
  rw [this]; rfl
theorem mem_ins (n : Int) : ∀ (l : List Int) (x : Int), x ∈ ins n l ↔ x = n ∨ x ∈ l
  | [], x => by simp [ins]
  | y :: l, x => by
    unfold ins
    split
    · simp
    · rw [List.mem_cons, mem_ins n l x, List.mem_cons]
      constructor
      · rintro (h | h | h) <;> simp [h]
      · rintro (h | h | h) <;> simp [h]
theorem mem_putM (l : List Int) (n x : Int) : x ∈ putM l n ↔ x = n ∨ x ∈ l := by
  unfold putM
  split
  · rename_i h
    constructor
    · exact .inr
    · rintro (rfl | q)
      · exact h
      · exact q
  · exact mem_ins n l x
/-- rising. -/
abbrev Rises (l : List Int) : Prop := l.Pairwise (· < ·)
theorem ins_rises (n : Int) : ∀ l : List Int, Rises l → n ∉ l → Rises (ins n l)
  | [], _, _ => by simp [ins]
  | y :: l, h, hn => by
    have h := List.pairwise_cons.1 h
    unfold ins
    split
    · rename_i q
      refine List.pairwise_cons.2 ⟨fun z hz => ?_, List.pairwise_cons.2 h⟩
      rcases List.mem_cons.1 hz with rfl | hz
      · exact q
      · have := h.1 z hz; omega
    · rename_i q
      refine List.pairwise_cons.2 ⟨fun z hz => ?_, ins_rises n l h.2 (fun m => hn (by simp [m]))⟩
      rcases (mem_ins n l z).1 hz with rfl | hz
      · have : ¬ y = z := fun e => hn (by simp [e])
        omega
      · exact h.1 z hz
theorem putM_rises (l : List Int) (n : Int) (h : Rises l) : Rises (putM l n) := by
  unfold putM
  split
  · exact h
  · rename_i q; exact ins_rises n l h q
/-- the reference's variables, rising. -/
def sortStep (l : List Int) (x : TyI) : List Int := if varB x then putM l x.v else l
def sortM (xs : List TyI) : List Int := xs.foldl sortStep []
theorem sortM_take (xs : List TyI) (k : Nat) (h : k < xs.length) : sortM (xs.take (k + 1)) = sortStep (sortM (xs.take k)) xs[k] := by
  unfold sortM
  rw [List.take_succ_eq_append_getElem h, List.foldl_append]; rfl
theorem fold_sort : ∀ (xs : List TyI) (l m : List Int), (∀ v, v ∈ l ↔ v ∈ m) → Rises l → (∀ v, v ∈ xs.foldl sortStep l ↔ v ∈ xs.foldl varsStep m) ∧ Rises (xs.foldl sortStep l)
  | [], l, m, h, hr => ⟨h, hr⟩
  | x :: xs, l, m, h, hr => by
    rw [List.foldl_cons, List.foldl_cons]
    refine fold_sort xs _ _ (fun v => ?_) ?_
    · unfold sortStep varsStep
      cases hb : varB x
      · simp [h v]
      · by_cases q : x.v ∈ m
        · rw [if_pos rfl, if_neg (fun c => c.2 q), mem_putM, h v]
          constructor
          · rintro (rfl | c)
            · exact q
            · exact c
          · exact .inr
        · rw [if_pos rfl, if_pos ⟨rfl, q⟩, mem_putM, h v, List.mem_append, List.mem_singleton]
          constructor
          · rintro (c | c)
            · exact .inr c
            · exact .inl c
          · rintro (c | c)
            · exact .inr c
            · exact .inl c
    · unfold sortStep
      split
      · exact putM_rises _ _ hr
      · exact hr
theorem sortM_mem (xs : List TyI) (v : Int) : v ∈ sortM xs ↔ v ∈ varsM xs := (fold_sort xs [] [] (fun _ => Iff.rfl) List.Pairwise.nil).1 v
theorem sortM_rises (xs : List TyI) : Rises (sortM xs) := (fold_sort xs [] [] (fun _ => Iff.rfl) List.Pairwise.nil).2
theorem putM_len (l : List Int) (n : Int) : (putM l n).length ≤ l.length + 1 := by
  unfold putM
  split
  · omega
  · rename_i h
    by_cases hb : bigB n (l.take l.length) = true
    · have := putM_end1 l n h hb
      unfold putM at this
      rw [if_neg h] at this
      rw [this]; exact putO_len l n _
    · have hb' : bigB n (l.take l.length) = false := by simpa using hb
      rw [List.take_length] at hb'
      have := ins_low n l [] hb'
      rw [List.append_nil] at this
      rw [this]; simp [ins]
theorem sortM_len (xs : List TyI) : ∀ k, k ≤ xs.length → (sortM (xs.take k)).length ≤ k
  | 0, _ => by simp [sortM]
  | k + 1, h => by
    rw [sortM_take xs k (by omega)]
    have := sortM_len xs k (by omega)
    unfold sortStep
    split
    · have := putM_len (sortM (xs.take k)) xs[k].v; omega
    · omega
end Go.Proofs.Ytngobmjdbjlkcaa
