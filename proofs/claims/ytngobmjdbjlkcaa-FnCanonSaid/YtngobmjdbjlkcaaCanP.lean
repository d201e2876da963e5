import Derived.Test.YtngobmjdbjlkcaaHFitsM
import Derived.Test.YtngobmjdbjlkcaaHTyVars
/- Canonical types: each is an instance of the other, renaming again changes nothing. Plain. -/
namespace Go.Proofs.Ytngobmjdbjlkcaa
set_option linter.unusedVariables false
set_option linter.unusedSimpArgs false
open Go.RowKit
def noBy : ByteArray := ⟨#[]⟩
/-- the variables renamed. -/
def renI (f : Int → Int) (x : TyI) : TyI := if varB x = true then ⟨f x.v, x.name, x.ar⟩ else x
theorem canonI_ren (vs : List Int) : canonI vs = renI (fun v => (idxN vs v : Nat)) := rfl
theorem renI_con {f : Int → Int} {x : TyI} (h : varB x = false) : renI f x = x := by unfold renI; rw [if_neg (by rw [h]; simp)]
theorem renI_var {f : Int → Int} {x : TyI} (h : varB x = true) : renI f x = ⟨f x.v, x.name, x.ar⟩ := by unfold renI; rw [if_pos h]
theorem renI_name (f : Int → Int) (x : TyI) : (renI f x).name = x.name := by unfold renI; split <;> rfl
theorem renI_ar (f : Int → Int) (x : TyI) : (renI f x).ar = x.ar := by unfold renI; split <;> rfl
theorem renI_varB (f : Int → Int) (x : TyI) : varB (renI f x) = varB x := by unfold varB; rw [renI_name]
theorem arsM_ren (f : Int → Int) (xs : List TyI) : arsM (xs.map (renI f)) = arsM xs := by
  unfold arsM; rw [List.map_map]; congr 1; funext x; simp [renI_ar]
theorem endM_ren (f : Int → Int) (xs : List TyI) (k : Nat) : endM (xs.map (renI f)) k = endM xs k := by unfold endM; rw [arsM_ren]
theorem itemM_ren {f : Int → Int} {x : TyI} (h : itemM x = true) (hf : varB x = true → 0 ≤ f x.v ∧ f x.v ≤ 9999) : itemM (renI f x) = true := by
  cases hb : varB x with
  | false => rw [renI_con hb]; exact h
  | true =>
    obtain ⟨h1, h2⟩ := hf hb
    rw [renI_var hb]
    unfold varB at hb
    unfold itemM at h ⊢
    rw [if_pos hb] at h
    simp only at h ⊢
    rw [if_pos hb]
    simp only [Bool.and_eq_true, decide_eq_true_eq] at h ⊢
    exact ⟨⟨h1, h2⟩, h.2⟩
theorem tyOk_ren {f : Int → Int} {xs : List TyI} (h : tyOkM xs = true) (hf : ∀ x ∈ xs, varB x = true → 0 ≤ f x.v ∧ f x.v ≤ 9999) : tyOkM (xs.map (renI f)) = true := by
  obtain ⟨h1, h2, h3⟩ := tyOkM_all h
  unfold tyOkM tyItemsM
  rw [endM_ren, List.length_map, h2]
  simp only [Bool.and_eq_true, decide_eq_true_eq, List.all_eq_true, List.mem_map]
  exact ⟨h3, fun y ⟨x, hx, e⟩ => e ▸ itemM_ren (h1 x hx) (hf x hx), trivial⟩
theorem noname {x : TyI} (h : varB x = true) : x.name = noBy := by
  unfold varB at h
  have h : x.name.toList = [] := by simpa using h
  rw [ByteArray.toList_eq] at h
  exact bytes_ext h
theorem fits_ren {f : Int → Int} {xs : List TyI} (hx : tyOkM xs = true) (hy : tyOkM (xs.map (renI f)) = true) : fitsM xs (xs.map (renI f)) = true := by
  obtain ⟨hix, hex, hxl⟩ := tyOkM_all hx
  rw [fitsM_run hx hy]
  have key : ∀ k, k ≤ xs.length → ∃ l : List SubM, runF (xs.map (renI f)) (xs.take k) 0 [] = some (k, l) ∧ ∀ s ∈ l, s.ty = [⟨f s.v, noBy, 0⟩] := by
    intro k
    induction k with
    | zero => intro _; exact ⟨[], rfl, fun s hs => by cases hs⟩
    | succ k ih =>
      intro hk
      obtain ⟨l, h1, h2⟩ := ih (by omega)
      have hlt : k < xs.length := hk
      have hp : k < (xs.map (renI f)).length := by simpa using hlt
      have hyk : (xs.map (renI f))[k] = renI f xs[k] := by simp
      rw [runF_take hlt, h1]
      simp only [Option.bind_some]
      have hi := hix _ (List.getElem_mem hlt)
      cases hb : varB xs[k] with
      | false => exact ⟨l, stepF_eq hp hb (by rw [hyk, renI_con hb]), h2⟩
      | true =>
        have har := item_ar0 hi hb
        have hend : endM (xs.map (renI f)) k = ((k + 1 : Nat) : Int) := by
          rw [endM_ren, endM_ends, endsM_step xs k 0 hlt, har]; exact endsM_zero xs (k + 1)
        have hseg : seg (xs.map (renI f)) k (k + 1) = [⟨f xs[k].v, noBy, 0⟩] := by
          unfold seg
          rw [List.drop_eq_getElem_cons hp, Nat.add_sub_cancel_left, hyk, renI_var hb, har, noname hb]; rfl
        cases hfd : l.find? (fun s => s.v == xs[k].v) with
        | none =>
          refine ⟨_, stepF_new hp hb hend hfd, fun s hs => ?_⟩
          rcases List.mem_append.1 hs with q | q
          · exact h2 s q
          · simp at q; subst q; exact hseg
        | some s =>
          have hv : s.v = xs[k].v := by have := List.find?_some (p := fun s : SubM => s.v == xs[k].v) hfd; simpa using this
          have hs := h2 s (List.mem_of_find?_eq_some hfd)
          refine ⟨l, ?_, h2⟩
          rw [stepF_old hp hb hend hfd, if_pos (by rw [hs, hseg, hv])]
  obtain ⟨l, h1, -⟩ := key xs.length (Nat.le_refl _)
  rw [List.take_length] at h1
  rw [h1]; rfl
theorem idxN_get : ∀ (l : List Int) (x : Int), x ∈ l → l[idxN l x]? = some x
  | [], x, h => by cases h
  | y :: l, x, h => by
    rw [idxN]
    split
    · rename_i e; subst e; rfl
    · rename_i e
      have := idxN_get l x (by rcases List.mem_cons.1 h with q | q; exact absurd q.symm e; exact q)
      simpa using this
theorem vars_ren {f : Int → Int} : ∀ (xs : List TyI) (seen : List Int), (∀ a b, (a ∈ seen ∨ ∃ x ∈ xs, varB x = true ∧ x.v = a) → (b ∈ seen ∨ ∃ x ∈ xs, varB x = true ∧ x.v = b) → f a = f b → a = b) →
    (xs.map (renI f)).foldl varsStep (seen.map f) = (xs.foldl varsStep seen).map f
  | [], seen, _ => rfl
  | x :: xs, seen, hinj => by
    rw [List.map_cons, List.foldl_cons, List.foldl_cons]
    have hstep : varsStep (seen.map f) (renI f x) = (varsStep seen x).map f := by
      cases hb : varB x with
      | false =>
        unfold varsStep
        rw [renI_varB, hb]; simp
      | true =>
        unfold varsStep
        rw [renI_varB, hb, renI_var hb]
        by_cases hm : x.v ∈ seen
        · have : f x.v ∈ seen.map f := List.mem_map.2 ⟨_, hm, rfl⟩
          rw [if_neg (fun q => q.2 this), if_neg (fun q => q.2 hm)]
        · have : f x.v ∉ seen.map f := fun q => by
            obtain ⟨a, ha, e⟩ := List.mem_map.1 q
            have := hinj a x.v (.inl ha) (.inr ⟨x, by simp, hb, rfl⟩) e
            exact hm (this ▸ ha)
          rw [if_pos ⟨rfl, this⟩, if_pos ⟨rfl, hm⟩, List.map_append]; rfl
    rw [hstep]
    refine vars_ren xs (varsStep seen x) fun a b ha hb' e => hinj a b ?_ ?_ e
    · rcases ha with ha | ⟨y, hy, q⟩
      · unfold varsStep at ha
        split at ha
        · rename_i q
          rcases List.mem_append.1 ha with h | h
          · exact .inl h
          · simp at h; exact .inr ⟨x, by simp, q.1, h.symm⟩
        · exact .inl ha
      · exact .inr ⟨y, by simp [hy], q⟩
    · rcases hb' with ha | ⟨y, hy, q⟩
      · unfold varsStep at ha
        split at ha
        · rename_i q
          rcases List.mem_append.1 ha with h | h
          · exact .inl h
          · simp at h; exact .inr ⟨x, by simp, q.1, h.symm⟩
        · exact .inl ha
      · exact .inr ⟨y, by simp [hy], q⟩
def idI (xs : List TyI) (v : Int) : Int := (idxN (varsM xs) v : Nat)
theorem idI_inj (xs : List TyI) {a b : Int} (ha : a ∈ varsM xs) (hb : b ∈ varsM xs) (h : idI xs a = idI xs b) : a = b := by
  unfold idI at h
  have h1 := idxN_get _ a ha
  have h2 := idxN_get _ b hb
  have e : idxN (varsM xs) a = idxN (varsM xs) b := by omega
  rw [e, h2] at h1
  exact (Option.some.inj h1).symm
theorem vars_canon (xs : List TyI) : varsM (canonM xs) = (varsM xs).map (idI xs) := by
  have := vars_ren (f := idI xs) xs [] fun a b ha hb e => by
    have h : ∀ a, (a ∈ ([] : List Int) ∨ ∃ x ∈ xs, varB x = true ∧ x.v = a) → a ∈ varsM xs := fun a h => by
      rcases h with h | h
      · cases h
      · exact (varsM_mem' xs a).2 h
    exact idI_inj xs (h a ha) (h b hb) e
  exact this
theorem vars_canon_at (xs : List TyI) (i : Nat) (h : i < (varsM (canonM xs)).length) : (varsM (canonM xs))[i] = (i : Int) := by
  have hl : i < (varsM xs).length := by rw [vars_canon] at h; simpa using h
  have e : (varsM (canonM xs))[i] = ((varsM xs).map (idI xs))[i]'(by simpa using hl) := by
    congr 1
    exact vars_canon xs
  rw [e, List.getElem_map]
  unfold idI
  rw [idxN_at (varsM xs) _ i hl rfl (fun j hj => by
    have := List.pairwise_iff_getElem.1 (varsM_nodup xs) j i (by omega) hl hj
    exact this)]
theorem canon_idem (xs : List TyI) : canonM (canonM xs) = canonM xs := by
  have h : ∀ y ∈ canonM xs, canonI (varsM (canonM xs)) y = y := by
    intro y hy
    cases hb : varB y with
    | false => rw [canonI_ren]; exact renI_con hb
    | true =>
      have hm : y.v ∈ varsM (canonM xs) := (varsM_mem' _ _).2 ⟨y, hy, hb, rfl⟩
      have h1 := idxN_get _ _ hm
      obtain ⟨h2, h3⟩ := List.getElem?_eq_some_iff.1 h1
      rw [vars_canon_at] at h3
      rw [canonI_ren, renI_var hb]
      obtain ⟨v, n, a⟩ := y
      simp only at h3 ⊢
      rw [h3]
  show (canonM xs).map (canonI (varsM (canonM xs))) = canonM xs
  rw [List.map_congr_left h, List.map_id']
theorem canon_back (xs : List TyI) : (canonM xs).map (renI fun i => (varsM xs).getD i.toNat 0) = xs := by
  unfold canonM
  rw [List.map_map]
  have h : ∀ x ∈ xs, ((renI fun i => (varsM xs).getD i.toNat 0) ∘ canonI (varsM xs)) x = x := by
    intro x hx
    simp only [Function.comp]
    cases hb : varB x with
    | false => rw [canonI_ren, renI_con hb, renI_con hb]
    | true =>
      have hm : x.v ∈ varsM xs := (varsM_mem' _ _).2 ⟨x, hx, hb, rfl⟩
      have h1 := idxN_get _ _ hm
      rw [canonI_ren, renI_var (f := fun i => (varsM xs).getD i.toNat 0) (by rw [renI_varB]; exact hb), renI_var hb]
      simp only [Int.toNat_natCast]
      rw [List.getD_eq_getElem?_getD, h1]
      rfl
  rw [List.map_congr_left h, List.map_id']
theorem canon_ok {xs : List TyI} (h : tyOkM xs = true) : tyOkM (canonM xs) = true := by
  obtain ⟨h1, h2, h3⟩ := tyOkM_all h
  show tyOkM (xs.map (renI (idI xs))) = true
  refine tyOk_ren h fun x hx hb => ?_
  unfold idI
  have := idxN_le (varsM xs) x.v
  have := varsM_len' xs
  omega
theorem canon_fits {xs : List TyI} (h : tyOkM xs = true) : fitsM xs (canonM xs) = true ∧ fitsM (canonM xs) xs = true := by
  refine ⟨fits_ren (f := idI xs) h (canon_ok h), ?_⟩
  have := fits_ren (f := fun i => (varsM xs).getD i.toNat 0) (canon_ok h) (by rw [canon_back]; exact h)
  rwa [canon_back] at this
theorem canon_count (xs : List TyI) : (varsM (canonM xs)).length = (varsM xs).length := by rw [vars_canon]; simp
end Go.Proofs.Ytngobmjdbjlkcaa
