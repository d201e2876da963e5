import Derived.Test.YtngobmjdbjlkcaaUniB
import Derived.Test.YtngobmjdbjlkcaaFitB
/- The solver, plain: it ends, what it finds makes both types the same. -/
namespace Go.Proofs.Ytngobmjdbjlkcaa
set_option linter.unusedVariables false
set_option linter.unusedSimpArgs false
open Go.RowKit
/-! ### types as lists -/
theorem scan_app : ∀ (A B : List Nat) (m n : Nat), scan A m = some A.length → scan (A ++ B) (m + n) = (scan B n).map (· + A.length)
  | [], B, 0, n, _ => by simp
  | [], B, m + 1, n, h => by cases h
  | a :: A, B, 0, n, h => by rw [scan_zero] at h; simp at h
  | a :: A, B, m + 1, n, h => by
    rw [scan] at h
    cases e : scan A (m + a) with
    | none => rw [e] at h; cases h
    | some j =>
      rw [e] at h
      have hj : j = A.length := by simpa using h
      subst hj
      rw [List.cons_append, show m + 1 + n = (m + n) + 1 by omega, scan, show m + n + a = (m + a) + n by omega, scan_app A B (m + a) n e, Option.map_map]
      cases scan B n with
      | none => rfl
      | some k => simp [Function.comp_def]; omega
theorem scan_take : ∀ (L : List Nat) (m k : Nat), scan L m = some k → scan (L.take k) m = some k
  | L, 0, k, h => by rw [scan_zero] at h; injection h with h; subst h; rw [scan_zero]
  | [], m + 1, k, h => by cases h
  | a :: L, m + 1, k, h => by
    rw [scan] at h
    cases e : scan L (m + a) with
    | none => rw [e] at h; cases h
    | some j =>
      rw [e] at h
      have hj : j + 1 = k := by simpa using h
      subst hj
      rw [List.take_succ_cons, scan, scan_take L _ j e]; rfl
theorem arsM_app (a b : List TyI) : arsM (a ++ b) = arsM a ++ arsM b := List.map_append
theorem arsM_len (a : List TyI) : (arsM a).length = a.length := List.length_map _
/-- m types in a row. -/
def rowT (m : Nat) (xs : List TyI) : Prop := scan (arsM xs) m = some xs.length
theorem rowT_one (xs : List TyI) : rowT 1 xs ↔ endM xs 0 = xs.length := by
  unfold rowT endM
  rw [List.drop_zero]
  cases scan (arsM xs) 1 with
  | none => simp
  | some j => simp <;> omega
theorem rowT_app {m n : Nat} {a b : List TyI} (h1 : rowT m a) (h2 : rowT n b) : rowT (m + n) (a ++ b) := by
  unfold rowT at *
  rw [arsM_app, scan_app _ _ _ _ (by rw [h1, arsM_len]), h2, arsM_len, List.length_append]
  simp; omega
structure wfV (xs : List TyI) : Prop where
  row : rowT 1 xs
  ar : ∀ x ∈ xs, 0 ≤ x.ar ∧ x.ar ≤ 2
  var : ∀ x ∈ xs, varB x = true → x.ar = 0
theorem wfV.wfT {xs : List TyI} (h : wfV xs) : wfT xs := ⟨h.ar, (rowT_one xs).1 h.row⟩
theorem wfV.pos {xs : List TyI} (h : wfV xs) : 0 < xs.length := wfT_pos h.wfT
/-- what is put in. -/
theorem putX_app (l : List SubM) (a b : List TyI) : putX l (a ++ b) = putX l a ++ putX l b := List.flatMap_append
theorem putX_cons (l : List SubM) (x : TyI) (b : List TyI) : putX l (x :: b) = putI l x ++ putX l b := List.flatMap_cons
theorem putX_nil (l : List SubM) : putX l [] = [] := rfl
def lk (l : List SubM) (v : Int) : Option (List TyI) := (l.find? fun s => s.v == v).map SubM.ty
theorem putI_lk (l : List SubM) (x : TyI) : putI l x = if varB x = true then (lk l x.v).getD [x] else [x] := by
  unfold putI lk
  split
  · cases l.find? (fun s => s.v == x.v) <;> rfl
  · rfl
theorem lk_mem {l : List SubM} {v : Int} {t : List TyI} (h : lk l v = some t) : ∃ s ∈ l, s.v = v ∧ s.ty = t := by
  unfold lk at h
  obtain ⟨s, h1, h2⟩ := Option.map_eq_some_iff.1 h
  exact ⟨s, List.mem_of_find?_eq_some h1, by have := List.find?_some h1; simpa using this, h2⟩
theorem lk_none {l : List SubM} {v : Int} : lk l v = none ↔ ∀ s ∈ l, s.v ≠ v := by
  unfold lk
  rw [Option.map_eq_none_iff, List.find?_eq_none]
  constructor
  · intro h s hs; have := h s hs; simpa using this
  · intro h s hs; have := h s hs; simpa using this
theorem lk_of {l : List SubM} (hd : l.Pairwise (fun a b => a.v ≠ b.v)) {s : SubM} (hs : s ∈ l) : lk l s.v = some s.ty := by
  induction l with
  | nil => cases hs
  | cons a l ih =>
    unfold lk
    rw [List.find?_cons]
    rcases List.mem_cons.1 hs with rfl | hs
    · simp
    · have := (List.pairwise_cons.1 hd).1 s hs
      have e : (a.v == s.v) = false := by simpa using this
      rw [e]
      exact ih (List.pairwise_cons.1 hd).2 hs
theorem row_put {l : List SubM} (hw : ∀ s ∈ l, rowT 1 s.ty) : ∀ (xs : List TyI) (m : Nat), (∀ x ∈ xs, varB x = true → x.ar = 0) → rowT m xs → rowT m (putX l xs)
  | [], m, _, h => h
  | x :: xs, 0, _, h => by unfold rowT at h; rw [scan_zero] at h; simp at h
  | x :: xs, m + 1, hv, h => by
    have h' : rowT (m + x.ar.toNat) xs := by
      unfold rowT at h ⊢
      rw [show arsM (x :: xs) = x.ar.toNat :: arsM xs from rfl, scan] at h
      cases e : scan (arsM xs) (m + x.ar.toNat) with
      | none => rw [e] at h; cases h
      | some j => rw [e] at h; have : j = xs.length := by simpa using h
                  rw [this]
    have ih := row_put hw xs _ (fun y hy => hv y (List.mem_cons_of_mem _ hy)) h'
    rw [putX_cons, putI_lk]
    have one : rowT (m + 1) ([x] ++ putX l xs) := by
      unfold rowT at ih ⊢
      rw [show arsM ([x] ++ putX l xs) = x.ar.toNat :: arsM (putX l xs) from rfl, scan, ih]; simp
    split
    · rename_i hb
      cases hk : lk l x.v with
      | none => exact one
      | some t =>
        obtain ⟨s, hs, -, rfl⟩ := lk_mem hk
        have hz := hv x (by simp) hb
        rw [hz] at ih
        have := rowT_app (hw s hs) ih
        rw [show 1 + (m + Int.toNat 0) = m + 1 by simp; omega] at this
        exact this
    · exact one
theorem putX_mem {l : List SubM} {xs : List TyI} {y : TyI} (h : y ∈ putX l xs) : (y ∈ xs ∧ (varB y = true → lk l y.v = none)) ∨ ∃ s ∈ l, y ∈ s.ty ∧ ∃ x ∈ xs, varB x = true ∧ x.v = s.v := by
  obtain ⟨x, hx, hy⟩ := List.mem_flatMap.1 h
  rw [putI_lk] at hy
  split at hy
  · rename_i hb
    cases hk : lk l x.v with
    | none => rw [hk] at hy; have : y = x := by simpa using hy
              subst this; exact .inl ⟨hx, fun _ => hk⟩
    | some t =>
      rw [hk] at hy
      obtain ⟨s, hs, h1, rfl⟩ := lk_mem hk
      exact .inr ⟨s, hs, hy, x, hx, hb, h1.symm⟩
  · rename_i hb
    have : y = x := by simpa using hy
    subst this
    exact .inl ⟨hx, fun q => absurd q hb⟩
/-- no variable of a substitution. -/
def clear (l : List SubM) (xs : List TyI) : Prop := ∀ x ∈ xs, varB x = true → lk l x.v = none
theorem putX_clear {l : List SubM} {xs : List TyI} (h : clear l xs) : putX l xs = xs := by
  induction xs with
  | nil => rfl
  | cons x xs ih =>
    rw [putX_cons, ih fun y hy => h y (List.mem_cons_of_mem _ hy), putI_lk]
    split
    · rename_i hb; rw [h x (by simp) hb]; rfl
    · rfl
/-- a substitution, good over Q. -/
structure GoodL (Q : TyI → Prop) (l : List SubM) : Prop where
  rise : l.Pairwise (fun a b => a.v < b.v)
  wf : ∀ s ∈ l, wfV s.ty
  out : ∀ s ∈ l, clear l s.ty
  len : ∀ s ∈ l, s.ty.length ≤ 200
  q : ∀ s ∈ l, ∀ x ∈ s.ty, Q x
  vq : ∀ s ∈ l, ∃ x, Q x ∧ varB x = true ∧ x.v = s.v
theorem GoodL.nil (Q : TyI → Prop) : GoodL Q [] := ⟨.nil, nofun, nofun, nofun, nofun, nofun⟩
section
variable {Q : TyI → Prop} {l : List SubM}
theorem GoodL.dif (h : GoodL Q l) : l.Pairwise (fun a b => a.v ≠ b.v) := h.rise.imp fun h => by omega
theorem GoodL.clr (h : GoodL Q l) (xs : List TyI) : clear l (putX l xs) := fun y hy hb => by
  rcases putX_mem hy with ⟨-, q⟩ | ⟨s, hs, hy, -⟩
  · exact q hb
  · exact h.out s hs y hy hb
theorem GoodL.idem (h : GoodL Q l) (xs : List TyI) : putX l (putX l xs) = putX l xs := putX_clear (h.clr xs)
theorem GoodL.put {xs : List TyI} (h : GoodL Q l) (hx : wfV xs) : wfV (putX l xs) := ⟨row_put (fun s hs => (h.wf s hs).row) xs 1 hx.var hx.row, fun y hy => by
  rcases putX_mem hy with ⟨q, -⟩ | ⟨s, hs, hy, -⟩
  · exact hx.ar y q
  · exact (h.wf s hs).ar y hy, fun y hy => by
  rcases putX_mem hy with ⟨q, -⟩ | ⟨s, hs, hy, -⟩
  · exact hx.var y q
  · exact (h.wf s hs).var y hy⟩
theorem GoodL.putQ {xs : List TyI} (h : GoodL Q l) (hx : ∀ x ∈ xs, Q x) : ∀ x ∈ putX l xs, Q x := fun y hy => by
  rcases putX_mem hy with ⟨q, -⟩ | ⟨s, hs, hy, -⟩
  · exact hx y q
  · exact h.q s hs y hy
end
theorem putX_len {l : List SubM} {B : Nat} (hB : 1 ≤ B) (h : ∀ s ∈ l, s.ty.length ≤ B) : ∀ xs : List TyI, (putX l xs).length ≤ xs.length * B
  | [] => Nat.zero_le _
  | x :: xs => by
    have := putX_len hB h xs
    rw [putX_cons, List.length_append, List.length_cons, Nat.add_mul, putI_lk]
    have h1 : (if varB x = true then (lk l x.v).getD [x] else [x]).length ≤ B := by
      split
      · cases hk : lk l x.v with
        | none => simpa using hB
        | some t => obtain ⟨s, hs, -, rfl⟩ := lk_mem hk; exact h s hs
      · simpa using hB
    omega
theorem putX_le_len {l : List SubM} (h : ∀ s ∈ l, 0 < s.ty.length) : ∀ xs : List TyI, xs.length ≤ (putX l xs).length
  | [] => Nat.zero_le _
  | x :: xs => by
    have := putX_le_len h xs
    rw [putX_cons, List.length_append, List.length_cons, putI_lk]
    have h1 : 1 ≤ (if varB x = true then (lk l x.v).getD [x] else [x]).length := by
      split
      · cases hk : lk l x.v with
        | none => simp
        | some t => obtain ⟨s, hs, -, rfl⟩ := lk_mem hk; exact h s hs
      · simp
    omega
/-! ### a binding -/
theorem mem_insL {l : List SubM} {i : Nat} {x y : SubM} : y ∈ insL l i x ↔ y = x ∨ y ∈ l := by
  unfold insL
  constructor
  · intro h
    rcases List.mem_append.1 h with h | h
    · exact .inr (List.mem_of_mem_take h)
    · rcases List.mem_cons.1 h with h | h
      · exact .inl h
      · exact .inr (List.mem_of_mem_drop h)
  · rintro (rfl | h)
    · simp
    · rw [← List.take_append_drop i l] at h
      rcases List.mem_append.1 h with h | h
      · exact List.mem_append_left _ h
      · exact List.mem_append_right _ (List.mem_cons_of_mem _ h)
theorem mem_nextM {l : List SubM} {v : Int} {u : List TyI} {s : SubM} : s ∈ nextM l v u ↔ ∃ s0 ∈ l, s = ⟨s0.v, putX [⟨v, u⟩] s0.ty⟩ := by
  unfold nextM
  rw [List.mem_map]
  exact ⟨fun ⟨a, h, e⟩ => ⟨a, h, e.symm⟩, fun ⟨a, h, e⟩ => ⟨a, h, e.symm⟩⟩
theorem lk_one (v w : Int) (u : List TyI) : lk [⟨v, u⟩] w = if v = w then some u else none := by
  unfold lk
  rw [List.find?_cons]
  by_cases h : v = w
  · have e : (v == w) = true := by simpa using h
    rw [if_pos h, e]; rfl
  · have e : (v == w) = false := by simpa using h
    rw [if_neg h, e]; rfl
theorem bind_rise {l : List SubM} {v : Int} {u : List TyI} (hr : l.Pairwise (fun a b => a.v < b.v)) (hv : ∀ s ∈ l, s.v ≠ v) : (bindL l v u).Pairwise (fun a b => a.v < b.v) := by
  have hn : (nextM l v u).Pairwise (fun a b => a.v < b.v) := by
    unfold nextM
    rw [List.pairwise_map]
    exact hr
  have hle := cntU_le l v
  have hlen := nextM_len l v u
  have hlo : ∀ s ∈ (nextM l v u).take (cntU l v), s.v < v := by
    intro s hs
    obtain ⟨j, hj, rfl⟩ := List.getElem_of_mem hs
    rw [List.length_take] at hj
    rw [List.getElem_take, nextM_v]
    exact cntU_lt (by omega) (by omega)
  have hhi : ∀ s ∈ (nextM l v u).drop (cntU l v), v < s.v := by
    intro s hs
    obtain ⟨j, hj, rfl⟩ := List.getElem_of_mem hs
    rw [List.length_drop] at hj
    rw [List.getElem_drop, nextM_v]
    have h0 : cntU l v < l.length := by omega
    have h1 := cntU_at h0
    have h2 := hv _ (List.getElem_mem h0)
    rcases Nat.eq_zero_or_pos j with rfl | hj0
    · simp only [Nat.add_zero]; omega
    · have := List.pairwise_iff_getElem.1 hr (cntU l v) (cntU l v + j) h0 (by omega) (by omega)
      omega
  unfold bindL insL
  rw [List.pairwise_append]
  refine ⟨hn.sublist (List.take_sublist _ _), List.pairwise_cons.2 ⟨hhi, hn.sublist (List.drop_sublist _ _)⟩, fun a ha b hb => ?_⟩
  rcases List.mem_cons.1 hb with rfl | hb
  · exact hlo a ha
  · have := hlo a ha; have := hhi b hb; omega
section
variable {Q : TyI → Prop} {l : List SubM} {v : Int} {u : List TyI}
theorem lk_bind (hr : l.Pairwise (fun a b => a.v < b.v)) (hv : ∀ s ∈ l, s.v ≠ v) (w : Int) : lk (bindL l v u) w = if w = v then some u else (lk l w).map (putX [⟨v, u⟩]) := by
  have hd : (bindL l v u).Pairwise (fun a b => a.v ≠ b.v) := (bind_rise (u := u) hr hv).imp fun h => by omega
  by_cases h : w = v
  · subst h
    rw [if_pos rfl]
    exact lk_of hd (s := ⟨w, u⟩) (mem_insL.2 (.inl rfl))
  · rw [if_neg h]
    cases hk : lk l w with
    | none =>
      rw [Option.map_none, lk_none]
      intro s hs
      rcases mem_insL.1 hs with rfl | hs
      · exact Ne.symm h
      · obtain ⟨s0, h0, rfl⟩ := mem_nextM.1 hs
        exact lk_none.1 hk s0 h0
    | some t =>
      obtain ⟨s, hs, rfl, rfl⟩ := lk_mem hk
      exact lk_of hd (s := ⟨s.v, putX [⟨v, u⟩] s.ty⟩) (mem_insL.2 (.inr (mem_nextM.2 ⟨s, hs, rfl⟩)))
theorem put_bind (hr : l.Pairwise (fun a b => a.v < b.v)) (hv : ∀ s ∈ l, s.v ≠ v) : ∀ xs : List TyI, putX (bindL l v u) xs = putX [⟨v, u⟩] (putX l xs)
  | [] => rfl
  | x :: xs => by
    rw [putX_cons, putX_cons, putX_app, put_bind hr hv xs]
    congr 1
    rw [putI_lk, putI_lk]
    split
    · rename_i hb
      rw [lk_bind hr hv]
      by_cases h : x.v = v
      · subst h
        have : lk l x.v = none := lk_none.2 hv
        rw [if_pos rfl, this]
        show u = putX _ [x]
        rw [putX_cons, putX_nil, putI_lk, if_pos hb, lk_one, if_pos rfl]; simp
      · rw [if_neg h]
        cases hk : lk l x.v with
        | none =>
          show [x] = putX _ [x]
          rw [putX_cons, putX_nil, putI_lk, if_pos hb, lk_one, if_neg (Ne.symm h)]; rfl
        | some t => rfl
    · rename_i hb
      show [x] = putX _ [x]
      rw [putX_cons, putX_nil, putI_lk, if_neg hb]; rfl
theorem clear_one (hv : v ∉ varsM u) : clear [⟨v, u⟩] u := fun x hx hb => by
  rw [lk_one, if_neg]
  rintro rfl
  exact hv ((varsM_mem' _ _).2 ⟨x, hx, hb, rfl⟩)
theorem bind_good (h : GoodL Q l) (hv : ∀ s ∈ l, s.v ≠ v) (hu : wfV u) (huq : ∀ x ∈ u, Q x) (huc : clear l u) (hvq : ∃ x, Q x ∧ varB x = true ∧ x.v = v) (hvu : v ∉ varsM u) (hb : (decide (200 < u.length) || bigU (nextM l v u)) = false) : GoodL Q (bindL l v u) := by
  have hr := bind_rise (u := u) h.rise hv
  have hone : GoodL Q [⟨v, u⟩] := ⟨List.pairwise_singleton _ _, fun s hs => by simp at hs; subst hs; exact hu, fun s hs => by simp at hs; subst hs; exact clear_one hvu, fun s hs => by
    simp at hs; subst hs
    simp only [Bool.or_eq_false_iff, decide_eq_false_iff_not] at hb
    show u.length ≤ 200
    omega, fun s hs => by simp at hs; subst hs; exact huq, fun s hs => by simp at hs; subst hs; exact hvq⟩
  refine ⟨hr, fun s hs => ?_, fun s hs x hx hbx => ?_, fun s hs => ?_, fun s hs => ?_, fun s hs => ?_⟩
  · rcases mem_insL.1 hs with rfl | hs
    · exact hu
    · obtain ⟨s0, h0, rfl⟩ := mem_nextM.1 hs
      exact hone.put (h.wf s0 h0)
  · rw [lk_bind h.rise hv]
    have key : x.v ≠ v ∧ lk l x.v = none := by
      rcases mem_insL.1 hs with rfl | hs
      · exact ⟨fun e => hvu ((varsM_mem' _ _).2 ⟨x, hx, hbx, e⟩), huc x hx hbx⟩
      · obtain ⟨s0, h0, rfl⟩ := mem_nextM.1 hs
        rcases putX_mem hx with ⟨q1, q2⟩ | ⟨s1, hs1, q1, -⟩
        · have := q2 hbx
          rw [lk_one] at this
          exact ⟨fun e => (by rw [if_pos e.symm] at this; cases this), h.out s0 h0 x q1 hbx⟩
        · simp at hs1; subst hs1
          exact ⟨fun e => hvu ((varsM_mem' _ _).2 ⟨x, q1, hbx, e⟩), huc x q1 hbx⟩
    rw [if_neg key.1, key.2]; rfl
  · simp only [Bool.or_eq_false_iff, decide_eq_false_iff_not] at hb
    rcases mem_insL.1 hs with rfl | hs
    · have := hb.1; simp only; omega
    · have := List.any_eq_false.1 hb.2 s hs
      simpa using this
  · rcases mem_insL.1 hs with rfl | hs
    · exact huq
    · obtain ⟨s0, h0, rfl⟩ := mem_nextM.1 hs
      exact hone.putQ (h.q s0 h0)
  · rcases mem_insL.1 hs with rfl | hs
    · exact hvq
    · obtain ⟨s0, h0, rfl⟩ := mem_nextM.1 hs
      exact h.vq s0 h0
end
/-! ### the arguments of a type -/
theorem seg_sub {xs : List TyI} {p e : Nat} : ∃ A B, xs = A ++ (seg xs p e ++ B) := ⟨xs.take p, (xs.drop p).drop (e - p), by unfold seg; rw [List.take_append_drop, List.take_append_drop]⟩
theorem seg_in {xs : List TyI} {p e : Nat} {x : TyI} (h : x ∈ seg xs p e) : x ∈ xs := List.mem_of_mem_drop (List.mem_of_mem_take h)
theorem kid_wf {xs : List TyI} (h : wfV xs) {n : Nat} (hn : n < (xs[0]'h.pos).ar.toNat) : wfV (kid xs n) := by
  refine ⟨?_, fun x hx => h.ar x (seg_in hx), fun x hx => h.var x (seg_in hx)⟩
  have hs := pN_succ h.wfT hn
  have h1 := (pN_eq h.wfT (n := n + 1) (by omega)).2
  have hbd := endM_bd xs _ _ hs
  unfold endM at hs
  cases e : scan ((arsM xs).drop (pN xs n)) 1 with
  | none => rw [e] at hs; simp only at hs; omega
  | some j =>
    rw [e] at hs
    simp only at hs
    have hj : j = pN xs (n + 1) - pN xs n := by omega
    have := scan_take _ _ _ e
    unfold rowT kid
    have el : (seg xs (pN xs n) (pN xs (n + 1))).length = j := by rw [seg_len h1.2, hj]
    rw [el]
    rw [hj] at this ⊢
    have ea : arsM (seg xs (pN xs n) (pN xs (n + 1))) = ((arsM xs).drop (pN xs n)).take (pN xs (n + 1) - pN xs n) := by unfold seg arsM; rw [List.map_take, List.map_drop]
    rw [ea]; exact this
theorem kid_len {xs : List TyI} (h : wfV xs) {n : Nat} (hn : n < (xs[0]'h.pos).ar.toNat) : (kid xs n).length < xs.length := by
  have h1 := (pN_eq h.wfT (n := n + 1) (by omega)).2
  have h2 := (pN_eq h.wfT (n := n) (by omega)).2
  unfold kid
  rw [seg_len h1.2]; have := h.pos; omega
theorem put_kids {xs ys : List TyI} (hx : wfV xs) (hy : wfV ys) (l : List SubM) {m : Nat} (mx : (xs[0]'hx.pos).ar.toNat = m) (my : (ys[0]'hy.pos).ar.toNat = m) : ∀ n, n ≤ m → (∀ i, i < n → putX l (kid xs i) = putX l (kid ys i)) → putX l (seg xs 1 (pN xs n)) = putX l (seg ys 1 (pN ys n))
  | 0, _, _ => by rw [pN_zero, pN_zero, seg_nil, seg_nil]
  | n + 1, hn, h => by
    have a1 := pN_eq hx.wfT (n := n) (by omega)
    have a2 := pN_eq hx.wfT (n := n + 1) (by omega)
    have b1 := pN_eq hy.wfT (n := n) (by omega)
    have b2 := pN_eq hy.wfT (n := n + 1) (by omega)
    have c1 := (endM_bd xs _ _ (pN_succ hx.wfT (n := n) (by omega))).1
    have c2 := (endM_bd ys _ _ (pN_succ hy.wfT (n := n) (by omega))).1
    rw [seg_app a1.2.1 (Nat.le_of_lt c1) a2.2.2, seg_app b1.2.1 (Nat.le_of_lt c2) b2.2.2, putX_app, putX_app, put_kids hx hy l mx my n (by omega) fun i hi => h i (by omega)]
    congr 1
    exact h n (by omega)
theorem put_same {xs ys : List TyI} (hx : wfV xs) (hy : wfV ys) (l : List SubM) (h0 : xs[0]'hx.pos = ys[0]'hy.pos) (h : ∀ i, i < (xs[0]'hx.pos).ar.toNat → putX l (kid xs i) = putX l (kid ys i)) : putX l xs = putX l ys := by
  have hk := put_kids hx hy l rfl (by rw [← h0]) _ (Nat.le_refl _) h
  have e1 : pN xs (xs[0]'hx.pos).ar.toNat = xs.length := by have := wfT_end hx.wfT; unfold pN; rw [this]; rfl
  have e2 : pN ys (xs[0]'hx.pos).ar.toNat = ys.length := by have := wfT_end hy.wfT; unfold pN; rw [h0, this]; rfl
  rw [e1, e2] at hk
  have s1 : ∀ zs : List TyI, (hz : 0 < zs.length) → zs = zs[0] :: seg zs 1 zs.length := fun zs hz => by
    have : seg zs 0 zs.length = zs := by unfold seg; simp
    rw [← seg_cons hz hz, this]
  rw [s1 xs hx.pos, s1 ys hy.pos, putX_cons, putX_cons, h0]
  congr 1
theorem var_one {xs : List TyI} (h : wfV xs) (hv : varB (xs[0]'h.pos) = true) : xs = [xs[0]'h.pos] := by
  have hp := h.pos
  have ha := h.var _ (List.getElem_mem hp) hv
  have hr := h.row
  match xs, hp with
  | x :: r, hp =>
    simp only [List.getElem_cons_zero] at ha ⊢
    unfold rowT at hr
    rw [show arsM (x :: r) = x.ar.toNat :: arsM r from rfl, scan, ha] at hr
    simp only [Int.toNat_zero, Nat.zero_add, Nat.add_zero] at hr
    rw [scan_zero] at hr
    have : r.length = 0 := by simpa using hr.symm
    rw [List.length_eq_zero_iff.1 this]
theorem put_one {xs : List TyI} (h : wfV xs) (hv : varB (xs[0]'h.pos) = true) (u : List TyI) : putX [⟨(xs[0]'h.pos).v, u⟩] xs = u := by
  have h1 := var_one h hv
  generalize (xs[0]'h.pos) = a at h1 hv ⊢
  subst h1
  rw [putX_cons, putX_nil, putI_lk, if_pos hv, lk_one, if_pos rfl]; simp
theorem one_eq {xs ys : List TyI} (h : wfV xs) (h' : wfV ys) (hv : varB (xs[0]'h.pos) = true) (hv' : varB (ys[0]'h'.pos) = true) (e : xs[0]'h.pos = ys[0]'h'.pos) : xs = ys := (var_one h hv).trans ((congrArg (fun z => [z]) e).trans (var_one h' hv').symm)
/-! ### it ends -/
def unb (V : List Int) (l : List SubM) : Nat := (V.filter fun v => (lk l v).isNone).length
theorem filter_lt {p q : Int → Bool} {v : Int} (hpq : ∀ w, q w = true → p w = true) (hp : p v = true) (hq : q v = false) : ∀ V : List Int, (V.filter q).length ≤ (V.filter p).length ∧ (v ∈ V → (V.filter q).length < (V.filter p).length)
  | [] => ⟨Nat.le_refl _, nofun⟩
  | w :: V => by
    obtain ⟨i1, i2⟩ := filter_lt hpq hp hq V
    rw [List.filter_cons, List.filter_cons]
    cases e1 : q w with
    | true =>
      rw [if_pos rfl, if_pos (hpq w e1), List.length_cons, List.length_cons]
      refine ⟨by omega, fun h => ?_⟩
      rcases List.mem_cons.1 h with rfl | h
      · rw [hq] at e1; cases e1
      · have := i2 h; omega
    | false =>
      rw [if_neg (by simp)]
      cases e2 : p w with
      | true =>
        rw [if_pos rfl, List.length_cons]
        exact ⟨by omega, fun h => by omega⟩
      | false =>
        rw [if_neg (by simp)]
        refine ⟨i1, fun h => ?_⟩
        rcases List.mem_cons.1 h with rfl | h
        · rw [hp] at e2; cases e2
        · exact i2 h
theorem unb_bind {V : List Int} {l : List SubM} {v : Int} {u : List TyI} (hr : l.Pairwise (fun a b => a.v < b.v)) (hv : ∀ s ∈ l, s.v ≠ v) (hV : v ∈ V) : unb V (bindL l v u) < unb V l := by
  refine (filter_lt (v := v) (fun w hw => ?_) ?_ ?_ V).2 hV
  · rw [lk_bind hr hv] at hw
    split at hw
    · cases hw
    · simpa using hw
  · rw [lk_none.2 hv]; rfl
  · rw [lk_bind hr hv, if_pos rfl]; rfl
def Ext (l l' : List SubM) : Prop := ∀ t, putX l' (putX l t) = putX l' t
theorem Ext.trans {a b c : List SubM} (h : Ext a b) (h' : Ext b c) : Ext a c := fun t => by rw [← h' (putX a t), h t, h' t]
def Bd (Q : TyI → Prop) (l : List SubM) (x : List TyI) : Prop := ∀ l', Ext l l' → GoodL Q l' → (putX l' x).length ≤ 40000
/-- what a call leaves where its code is 0. -/
structure UPost (Q : TyI → Prop) (V : List Int) (l : List SubM) (x y : List TyI) (l' : List SubM) : Prop where
  good : GoodL Q l'
  ext : Ext l l'
  same : putX l' x = putX l' y
  less : l' = l ∨ unb V l' < unb V l
  room : l'.length + unb V l' ≤ l.length + unb V l
theorem bind_post {Q : TyI → Prop} {V : List Int} {l : List SubM} {v : Int} {u x y : List TyI} (h : GoodL Q l) (hv : ∀ s ∈ l, s.v ≠ v) (hV : v ∈ V) (hu : wfV u) (huq : ∀ x ∈ u, Q x) (huc : clear l u) (hvq : ∃ x, Q x ∧ varB x = true ∧ x.v = v) (hz : (bindM l v u).2 = 0) (hx : putX [⟨v, u⟩] (putX l x) = u) (hy : putX [⟨v, u⟩] (putX l y) = u ∨ putX l y = u) : UPost Q V l x y (bindM l v u).1 := by
  unfold bindM at hz ⊢
  split
  · rename_i q; rw [if_pos q] at hz; cases hz
  · rename_i q
    rw [if_neg q] at hz
    have hb : (decide (200 < u.length) || bigU (nextM l v u)) = false := by
      cases e : (decide (200 < u.length) || bigU (nextM l v u)) with
      | false => rfl
      | true => rw [e] at hz; simp at hz
    have hg := bind_good h hv hu huq huc hvq q hb
    have hun := unb_bind (u := u) h.rise hv hV
    refine ⟨hg, fun t => ?_, ?_, .inr hun, ?_⟩
    · rw [put_bind h.rise hv, h.idem, put_bind h.rise hv]
    · rw [put_bind h.rise hv, put_bind h.rise hv, hx]
      rcases hy with hy | hy
      · exact hy.symm
      · rw [hy]; exact (putX_clear (clear_one q)).symm
    · show (bindL l v u).length + unb V (bindL l v u) ≤ _
      have hle := cntU_le l v
      have : (bindL l v u).length = l.length + 1 := by
        unfold bindL insL
        have := nextM_len l v u
        simp only [List.length_append, List.length_cons, List.length_take, List.length_drop, Nat.min_def]; split <;> omega
      omega
theorem head_eq {a b : TyI} (hn : a.name.toList = b.name.toList) (hv : a.v = b.v) (ha : a.ar = b.ar) : a = b := item_eq hv (by rw [ByteArray.toList_eq, ByteArray.toList_eq] at hn; exact congrArg Array.toList (by simpa using hn)) ha
set_option maxRecDepth 100000 in
set_option maxHeartbeats 1000000 in
theorem uni_main {Q : TyI → Prop} {V : List Int} (hQ1 : ∀ x, Q x → varB x = true → x.v ∈ V) (hQ0 : ∀ x, Q x → varB x = false → x.v = 0) {B : Nat} (hB : B ≤ 1000000) :
    ∀ (n : Nat) (l : List SubM) (x y : List TyI), GoodL Q l → wfV x → wfV y → (∀ i ∈ x, Q i) → (∀ i ∈ y, Q i) → Bd Q l x → Bd Q l y → l.length + unb V l ≤ B → unb V l * 40001 + (putX l x).length < n →
      UOk n l x y ∧ ∃ r, uniM n l x y = some r ∧ (r.2 = 0 → UPost Q V l x y r.1)
  | 0, _, _, _, _, _, _, _, _, _, _, _, h => absurd h (Nat.not_lt_zero _)
  | n + 1, l, x, y, hg, wx, wy, qx, qy, bx, by_, hroom, hn => by
    have hrefl : Ext l l := fun t => hg.idem t
    have lX := bx l hrefl hg
    have lY := by_ l hrefl hg
    have WX := hg.put wx
    have WY := hg.put wy
    have cX := hg.clr x
    have cY := hg.clr y
    have QX := hg.putQ qx
    have QY := hg.putQ qy
    have pos : ∀ s ∈ l, 0 < s.ty.length := fun s hs => (hg.wf s hs).pos
    have hst : UStep l x y := ⟨by have := putX_le_len pos x; omega, by have := putX_le_len pos y; omega, by omega, by omega, by omega, WX.wfT, WY.wfT, hg.rise, fun v hv => by
        rw [← lk_none]
        rcases hv with hv | hv
        · obtain ⟨i, hi, hb, rfl⟩ := (varsM_mem' _ _).1 hv; exact cX i hi hb
        · obtain ⟨i, hi, hb, rfl⟩ := (varsM_mem' _ _).1 hv; exact cY i hi hb, fun s hs => by have := hg.len s hs; omega, fun v u hu s hs => by
        have h1 := hg.len s hs
        have h2 : u.length ≤ 40000 := by rcases hu with rfl | rfl <;> assumption
        have h3 := putX_len (l := [⟨v, u⟩]) (B := 40000) (by omega) (fun s hs => by simp at hs; subst hs; exact h2) s.ty
        have := Nat.mul_le_mul_right 40000 h1
        omega⟩
    have pX := WX.pos
    have pY := WY.pos
    have eX := List.getElem?_eq_getElem WX.pos
    have eY := List.getElem?_eq_getElem WY.pos
    have IH := uni_main hQ1 hQ0 hB n
    -- the arguments
    have fold : varB (putX l x)[0] = false → (putX l x)[0].ar = (putX l y)[0].ar → ∀ (j i : Nat) (li : List SubM), i + j = (putX l x)[0].ar.toNat → GoodL Q li → Ext l li → (li = l ∨ unb V li < unb V l) → li.length + unb V li ≤ l.length + unb V l → (∀ k, k < i → putX li (kid (putX l x) k) = putX li (kid (putX l y) k)) →
        FoldOk (UOk n) (uniM n) (putX l x) (putX l y) j i li ∧ ∃ r, foldU (uniM n) (putX l x) (putX l y) j i li = some r ∧ (r.2 = 0 → GoodL Q r.1 ∧ Ext l r.1 ∧ (r.1 = l ∨ unb V r.1 < unb V l) ∧ r.1.length + unb V r.1 ≤ l.length + unb V l ∧ ∀ k, k < (putX l x)[0].ar.toNat → putX r.1 (kid (putX l x) k) = putX r.1 (kid (putX l y) k)) := by
      intro hva har j
      induction j with
      | zero =>
        intro i li hi hgi hei hli hro hk
        exact ⟨trivial, (li, 0), rfl, fun _ => ⟨hgi, hei, hli, hro, fun k hk' => hk k (by omega)⟩⟩
      | succ j ih =>
        intro i li hi hgi hei hli hro hk
        have hi1 : i < (putX l x)[0].ar.toNat := by omega
        have hi2 : i < (putX l y)[0].ar.toNat := by omega
        have bd : ∀ (z : List TyI), Bd Q l z → Bd Q li (kid (putX l z) i) := fun z hz l' he hg' => by
          have h1 := hz l' (hei.trans he) hg'
          have h2 : putX l' (putX l z) = putX l' z := (hei.trans he) z
          obtain ⟨A, C, e⟩ := seg_sub (xs := putX l z) (p := pN (putX l z) i) (e := pN (putX l z) (i + 1))
          have h3 := congrArg (fun w => (putX l' w).length) e
          simp only [putX_app, List.length_append] at h3
          show (putX l' (seg _ _ _)).length ≤ _
          rw [h2] at h3; omega
        have hkl := kid_len WX hi1
        have hmes : unb V li * 40001 + (putX li (kid (putX l x) i)).length < n := by
          rcases hli with rfl | hlt
          · have e : putX li (kid (putX li x) i) = kid (putX li x) i := putX_clear fun z hz hb => cX z (seg_in hz) hb
            rw [e]; omega
          · have h1 := bd x bx li (fun t => hgi.idem t) hgi
            have h2 : (unb V li + 1) * 40001 ≤ unb V l * 40001 := Nat.mul_le_mul_right _ hlt
            omega
        obtain ⟨u1, ⟨l1, c1⟩, u2, u3⟩ := IH li (kid (putX l x) i) (kid (putX l y) i) hgi (kid_wf WX hi1) (kid_wf WY hi2) (fun z hz => QX z (seg_in hz)) (fun z hz => QY z (seg_in hz)) (bd x bx) (bd y by_) (by omega) hmes
        have step : c1 = 0 → GoodL Q l1 ∧ Ext l l1 ∧ (l1 = l ∨ unb V l1 < unb V l) ∧ l1.length + unb V l1 ≤ l.length + unb V l ∧ ∀ k, k < i + 1 → putX l1 (kid (putX l x) k) = putX l1 (kid (putX l y) k) := fun hc => by
          have q := u3 hc
          refine ⟨q.good, hei.trans q.ext, ?_, by have := q.room; simp only at this; omega, fun k hk' => ?_⟩
          · rcases q.less with q1 | q1
            · simp only at q1; rw [q1]; exact hli
            · rcases hli with q2 | q2
              · rw [q2] at q1; exact .inr q1
              · exact .inr (Nat.lt_trans q1 q2)
          · rcases Nat.lt_succ_iff_lt_or_eq.1 hk' with h | rfl
            · rw [← q.ext (kid (putX l x) k), hk k h, q.ext]
            · exact q.same
        refine ⟨⟨u1, fun l' hl' => ?_⟩, ?_⟩
        · rw [u2] at hl'
          injection hl' with hl'; injection hl' with e1 e2; subst e1
          obtain ⟨s1, s2, s3, s4, s5⟩ := step e2
          exact (ih (i + 1) l1 (by omega) s1 s2 s3 s4 s5).1
        · rw [foldU, u2]
          simp only
          by_cases hc : c1 = 0
          · rw [if_pos hc]
            obtain ⟨s1, s2, s3, s4, s5⟩ := step hc
            exact (ih (i + 1) l1 (by omega) s1 s2 s3 s4 s5).2
          · rw [if_neg hc]
            exact ⟨_, rfl, fun h => absurd h hc⟩
    have fold0 := fun h1 h2 => fold h1 h2 (putX l x)[0].ar.toNat 0 l (by omega) hg hrefl (.inl rfl) (Nat.le_refl _) (fun k hk => absurd hk (Nat.not_lt_zero _))
    refine ⟨⟨hst, fun a b ha hb va vb hnm har => ?_⟩, ?_⟩
    · rw [eX] at ha; rw [eY] at hb
      injection ha with ha; injection hb with hb
      subst ha hb
      exact (fold0 va har).1
    · rw [uniM, eX, eY]
      simp only
      have bY : varB (putX l x)[0] = true → (bindM l (putX l x)[0].v (putX l y)).2 = 0 → UPost Q V l x y (bindM l (putX l x)[0].v (putX l y)).1 := fun hva hz => by
        have hmem := List.getElem_mem WX.pos
        exact bind_post hg (lk_none.1 (cX _ hmem hva)) (hQ1 _ (QX _ hmem) hva) WY QY cY ⟨_, QX _ hmem, hva, rfl⟩ hz (put_one WX hva _) (.inr rfl)
      have bX : varB (putX l y)[0] = true → (bindM l (putX l y)[0].v (putX l x)).2 = 0 → UPost Q V l x y (bindM l (putX l y)[0].v (putX l x)).1 := fun hvb hz => by
        have hmem := List.getElem_mem WY.pos
        have q : UPost Q V l y x (bindM l (putX l y)[0].v (putX l x)).1 := bind_post hg (lk_none.1 (cY _ hmem hvb)) (hQ1 _ (QY _ hmem) hvb) WX QX cX ⟨_, QY _ hmem, hvb, rfl⟩ hz (put_one WY hvb _) (.inr rfl)
        exact ⟨q.good, q.ext, q.same.symm, q.less, q.room⟩
      unfold headU
      cases hva : varB (putX l x)[0] with
      | true =>
        rw [if_pos rfl]
        cases hvb : varB (putX l y)[0] with
        | true =>
          rw [if_pos rfl]
          by_cases hvv : (putX l x)[0].v = (putX l y)[0].v
          · rw [if_pos hvv]
            refine ⟨_, rfl, fun _ => ⟨hg, hrefl, ?_, .inl rfl, Nat.le_refl _⟩⟩
            show putX l x = putX l y
            have e : (putX l x)[0] = (putX l y)[0] := head_eq (by
              have h1 := hva; have h2 := hvb
              unfold varB at h1 h2
              rw [List.isEmpty_iff] at h1 h2
              rw [h1, h2]) hvv (by rw [WX.var _ (List.getElem_mem WX.pos) hva, WY.var _ (List.getElem_mem WY.pos) hvb])
            exact one_eq WX WY hva hvb e
          · rw [if_neg hvv]
            split
            · exact ⟨_, rfl, bX hvb⟩
            · exact ⟨_, rfl, bY hva⟩
        | false => exact ⟨_, rfl, bY hva⟩
      | false =>
        rw [if_neg (by simp)]
        cases hvb : varB (putX l y)[0] with
        | true => exact ⟨_, rfl, bX hvb⟩
        | false =>
          rw [if_neg (by simp)]
          by_cases hne : (putX l x)[0].name.toList ≠ (putX l y)[0].name.toList ∨ (putX l x)[0].ar ≠ (putX l y)[0].ar
          · rw [if_pos hne]
            exact ⟨_, rfl, fun h => by cases h⟩
          · rw [if_neg hne]
            have hne' : (putX l x)[0].name.toList = (putX l y)[0].name.toList ∧ (putX l x)[0].ar = (putX l y)[0].ar := ⟨Classical.byContradiction fun q => hne (.inl q), Classical.byContradiction fun q => hne (.inr q)⟩
            obtain ⟨r, hr, hp⟩ := (fold0 hva hne'.2).2
            refine ⟨r, hr, fun hz => ?_⟩
            obtain ⟨s1, s2, s3, s4, s5⟩ := hp hz
            refine ⟨s1, s2, ?_, s3, s4⟩
            have e0 : (putX l x)[0] = (putX l y)[0] := head_eq hne'.1 (by rw [hQ0 _ (QX _ (List.getElem_mem WX.pos)) hva, hQ0 _ (QY _ (List.getElem_mem WY.pos)) hvb]) hne'.2
            rw [← s2 x, ← s2 y]
            exact put_same WX WY r.1 e0 s5
end Go.Proofs.Ytngobmjdbjlkcaa

/- Unify of both sides, over the second engine. -/
namespace Go.Proofs.Ytngobmjdbjlkcaa
set_option linter.unusedVariables false
set_option linter.unusedSimpArgs false
open Go.RowKit
theorem itemM_var {x : TyI} (h : itemM x = true) (hv : varB x = true) : x.ar = 0 := by
  unfold varB at hv
  unfold itemM at h
  rw [if_pos hv] at h
  simp only [Bool.and_eq_true, beq_iff_eq] at h
  exact h.2
theorem itemM_con {x : TyI} (h : itemM x = true) (hv : varB x = false) : x.v = 0 := by
  unfold varB at hv
  unfold itemM at h
  rw [if_neg (by rw [hv]; simp)] at h
  simp only [Bool.and_eq_true, beq_iff_eq] at h
  exact h.1
theorem tyOkM_wfV {xs : List TyI} (h : tyOkM xs = true) : wfV xs := by
  unfold tyOkM tyItemsM at h
  simp only [Bool.and_eq_true, decide_eq_true_eq, List.all_eq_true] at h
  exact ⟨(rowT_one xs).2 h.2.2, fun x hx => itemM_ar (h.2.1 x hx), fun x hx => itemM_var (h.2.1 x hx)⟩
def uniQ (P : TyI → Prop) (V : List Int) (x : TyI) : Prop := itemM x = true ∧ (varB x = true → x.v ∈ V) ∧ P x
/-- the solver's run from nothing. -/
theorem uni_run {P : TyI → Prop} {xs ys : List TyI} (hx : tyOkM xs = true) (hy : tyOkM ys = true) (pxs : ∀ x ∈ xs, P x) (pys : ∀ y ∈ ys, P y) : ∃ n r, UOk n [] xs ys ∧ uniM n [] xs ys = some r ∧ (r.2 = 0 → UPost (uniQ P (varsM (xs ++ ys))) (varsM (xs ++ ys)) [] xs ys r.1) := by
  have hlx : xs.length ≤ 200 := by unfold tyOkM at hx; simp only [Bool.and_eq_true, decide_eq_true_eq] at hx; exact hx.1
  have hly : ys.length ≤ 200 := by unfold tyOkM at hy; simp only [Bool.and_eq_true, decide_eq_true_eq] at hy; exact hy.1
  have hix : ∀ x ∈ xs, itemM x = true := by unfold tyOkM tyItemsM at hx; simp only [Bool.and_eq_true, decide_eq_true_eq, List.all_eq_true] at hx; exact hx.2.1
  have hiy : ∀ x ∈ ys, itemM x = true := by unfold tyOkM tyItemsM at hy; simp only [Bool.and_eq_true, decide_eq_true_eq, List.all_eq_true] at hy; exact hy.2.1
  have bd : ∀ zs : List TyI, zs.length ≤ 200 → Bd (uniQ P (varsM (xs ++ ys))) [] zs := fun zs hz l' _ hg => by
    have h1 := putX_len (l := l') (B := 200) (by omega) (fun s hs => hg.len s hs) zs
    have := Nat.mul_le_mul_right 200 hz
    omega
  have hun : unb (varsM (xs ++ ys)) [] ≤ 400 := by
    have h1 : unb (varsM (xs ++ ys)) [] ≤ (varsM (xs ++ ys)).length := List.length_filter_le _ _
    have h2 := varsM_len' (xs ++ ys)
    rw [List.length_append] at h2
    omega
  obtain ⟨n, hn⟩ : ∃ n, unb (varsM (xs ++ ys)) [] * 40001 + (putX [] xs).length < n := ⟨_, Nat.lt_succ_self _⟩
  obtain ⟨h1, r, h2, h3⟩ := uni_main (Q := uniQ P (varsM (xs ++ ys))) (V := varsM (xs ++ ys)) (fun x h => h.2.1) (fun x h hv => itemM_con h.1 hv) (B := 400) (by omega) n [] xs ys (GoodL.nil _) (tyOkM_wfV hx) (tyOkM_wfV hy)
    (fun i hi => ⟨hix i hi, fun hv => (varsM_mem' _ _).2 ⟨i, List.mem_append_left _ hi, hv, rfl⟩, pxs i hi⟩) (fun i hi => ⟨hiy i hi, fun hv => (varsM_mem' _ _).2 ⟨i, List.mem_append_right _ hi, hv, rfl⟩, pys i hi⟩) (bd xs hlx) (bd ys hly) (by simp; exact hun) hn
  exact ⟨n, r, h1, h2, h3⟩
def resU (r : List SubM × Int) : List SubM := if r.2 = 0 then r.1 else []
theorem nil_tup {g : Gh} {w : World} {d d' : D} {y : D} {v : Value} (h : ∀ u, RN g w 0 d u → RN g w 0 d' u) (hv : RNs g w (.tup [d, y]) v) : RNs g w (.tup [d', y]) v := by
  obtain ⟨us, e, hl, hr⟩ := hv
  refine ⟨us, e, hl, fun m x u hx hu => ?_⟩
  match m, hx with
  | 0, hx =>
    have hx : d' = x := by simpa using hx
    subst hx
    exact h u (hr 0 d u rfl hu)
  | 1, hx => exact hr 1 x u hx hu
  | m + 2, hx => simp at hx
/-- other words for the arguments. -/
theorem FCon.arg {P : Program} {f : FuncId} {args : List D} {Rs : D → List D → Prop} (h : FCon P f args Rs) (args' : List D) (hl : args'.length = args.length) (ha : ∀ (j : Nat) (d' d : D), args'[j]? = some d' → args[j]? = some d → ∀ (g : Gh) (w : World) (u : Value), RA g w j d' u → RA g w j d u) : FCon P f args' Rs :=
  ⟨h.ent, fun w g vs h1 h2 h3 h4 => h.run w g vs h1 h2 (h3.trans hl) fun j d u hd hu => by
    have hj : j < args'.length := by rw [hl]; exact (List.getElem?_eq_some_iff.1 hd).1
    exact ha j _ d (List.getElem?_eq_getElem hj) hd g w u (h4 j _ u (List.getElem?_eq_getElem hj) hu)⟩
theorem RA_nilO {g : Gh} {w : World} {j e k : Nat} {u : Value} (h : RA g w j (.opt [.nil]) u) : RA g w j (.opt [.osl e k []]) u := by
  have h : Rep g.S g.up w (some (.par j 0)) (.opt [.nil]) u := h
  show Rep g.S g.up w (some (.par j 0)) (.opt [.osl e k []]) u
  cases h with
  | opt cs h1 h2 h3 h4 =>
    refine .opt cs h1 h2 (by simpa using h3) fun i d hi => ?_
    match i, hi with
    | 0, hi =>
      have hi : D.osl e k [] = d := by simpa using hi
      subst hi
      exact Rep.nil_osl _ _ (h4 0 .nil rfl)
    | i + 1, hi => simp at hi
theorem RA_nilS {g : Gh} {w : World} {j k : Nat} {u : Value} (h : RA g w j .nil u) : RA g w j (.sl k []) u := Rep.nil_sl k (show Rep g.S g.up w (some (.par j 0)) .nil u from h)
theorem FCon.tupO {P : Program} {f : FuncId} {args : List D} {e k : Nat} {c : D} (h : FCon P f args (fun r _ => r = .tup [.nil, c])) : FCon P f args (fun r _ => r = .tup [.osl e k [], c]) := h.wk fun r o e' => by
  subst e'
  exact ⟨_, rfl, fun g w v hv => nil_tup (d := .nil) (fun u hu => Rep.nil_osl _ _ (show Rep g.S g.up w (some (.ans 0 0)) .nil u from hu)) hv⟩
theorem FCon.tupS {P : Program} {f : FuncId} {args : List D} {k : Nat} {c : D} (h : FCon P f args (fun r _ => r = .tup [.nil, c])) : FCon P f args (fun r _ => r = .tup [.sl k [], c]) := h.wk fun r o e' => by
  subst e'
  exact ⟨_, rfl, fun g w v hv => nil_tup (d := .nil) (fun u hu => Rep.nil_sl _ (show Rep g.S g.up w (some (.ans 0 0)) .nil u from hu)) hv⟩
def mixU (l : List SubM) (k : Nat) : List (List D) := (l.take k).map SubM.own ++ (l.drop k).map SubM.enc
theorem mixU_zero (l : List SubM) : mixU l 0 = l.map SubM.enc := rfl
theorem mixU_all (l : List SubM) : mixU l l.length = l.map SubM.own := by unfold mixU; rw [List.take_length, List.drop_length]; simp
theorem mixU_len (l : List SubM) (k : Nat) : (mixU l k).length = l.length := by unfold mixU; rw [List.length_append, List.length_map, List.length_map, List.length_take, List.length_drop]; simp only [Nat.min_def]; split <;> omega
theorem mixU_get {l : List SubM} {k : Nat} (h : k < l.length) : (mixU l k).getD k [] = l[k].enc := by
  unfold mixU
  have : ((l.take k).map SubM.own).length = k := by rw [List.length_map, List.length_take]; omega
  rw [List.getD_eq_getElem?_getD, List.getElem?_append_right (by omega), this, Nat.sub_self, List.getElem?_map, List.getElem?_drop, Nat.add_zero, List.getElem?_eq_getElem h]; rfl
theorem mixU_set {l : List SubM} {k : Nat} (h : k < l.length) : (mixU l k).set k l[k].own = mixU l (k + 1) := by
  unfold mixU
  have e : ((l.take k).map SubM.own).length = k := by rw [List.length_map, List.length_take]; omega
  rw [List.set_append_right _ _ (by omega), e, Nat.sub_self, List.drop_eq_getElem_cons h, List.map_cons, List.set_cons_zero, List.take_succ_eq_append_getElem h, List.map_append]
  simp
theorem c_specUnify_bad (xs ys : List TyI) (hox : ∀ x ∈ xs, x.ok) (hoy : ∀ y ∈ ys, y.ok) (hlx : xs.length ≤ 1048576) (hly : ys.length ≤ 1048576) (h : (tyOkM xs && tyOkM ys) = false) : FCon Try.prog 35 [.ag [.sl 3 (xs.map TyI.enc)], .ag [.sl 3 (ys.map TyI.enc)]] (fun r _ => r = .tup [.nil, .s (.int .i64 1)]) := by
  cases hx : tyOkM xs with
  | false =>
    refine FCon.intro PM _ Try.func35 (by kernel_rfl) rfl _ Try.ntmps35 rfl [] (by decide +kernel) (by simp) (by simp) rfl (by first | rfl | simp only [go_sem]) ?_
    (have hWf := WFx.mk @hx; repeat' (first | refine zS ?_ | exact zE | with_reducible apply And.intro | ((with_reducible apply q_CallG); refine zG (c_specTyOk xs hox (by omega)) ?_) | ((with_reducible apply q_CallQ); refine CallQ_mk (c_specTyOk xs hox (by omega)) ?_) | ((with_reducible intro hb0); revert hb0; with_reducible first | exact zB0 | refine zB fun hb => ?_ | fail) | ((with_reducible apply q_Meet); exact zM) | exact zC | refine zT ?_ | fail))
  | true =>
    rw [hx, Bool.true_and] at h
    refine FCon.intro PM _ Try.func35 (by kernel_rfl) rfl _ Try.ntmps35 rfl [] (by decide +kernel) (by simp) (by simp) rfl (by first | rfl | simp only [go_sem]) ?_
    (have hWf := WFx.mk (And.intro @hx <| @h); repeat' (first | refine zS ?_ | exact zE | with_reducible apply And.intro | ((with_reducible apply q_CallG); refine zG (c_specTyOk xs hox (by omega)) ?_) | ((with_reducible apply q_CallQ); refine CallQ_mk (c_specTyOk xs hox (by omega)) ?_) | ((with_reducible apply q_CallG); refine zG (c_specTyOk ys hoy (by omega)) ?_) | ((with_reducible apply q_CallQ); refine CallQ_mk (c_specTyOk ys hoy (by omega)) ?_) | ((with_reducible intro hb0); revert hb0; with_reducible first | exact zB0 | refine zB fun hb => ?_ | fail) | ((with_reducible apply q_Meet); exact zM) | exact zC | refine zT ?_ | fail))
theorem c_implUnify_bad (xs ys : List TyI) (hox : ∀ x ∈ xs, x.ok) (hoy : ∀ y ∈ ys, y.ok) (hlx : xs.length ≤ 1048576) (hly : ys.length ≤ 1048576) (h : (tyOkM xs && tyOkM ys) = false) : FCon Try.prog 36 [.ag [.sl 3 (xs.map TyI.enc)], .ag [.sl 3 (ys.map TyI.enc)]] (fun r _ => r = .tup [.nil, .s (.int .i64 1)]) := by
  cases hx : tyOkM xs with
  | false =>
    refine FCon.intro PM _ Try.func36 (by kernel_rfl) rfl _ Try.ntmps36 rfl [(4, 7, [], [], (lin [] [0, 1, 2, 3, 4, 5, 6])), (10, 9, [8], [(8, 0), (8, 1), (8, 2), (8, 3), (8, 4)], (lin [8] [0, 1, 2, 3, 4, 5, 6, 7, 8]))] (by decide +kernel) (by simp) (by simp) rfl (by first | rfl | simp only [go_sem]) ?_
    (have hWf := WFx.mk @hx; repeat' (first | refine zS ?_ | exact zE | with_reducible apply And.intro | ((with_reducible apply q_CallG); refine zG (c_implTyOk xs hox (by omega)) ?_) | ((with_reducible apply q_CallQ); refine CallQ_mk (c_implTyOk xs hox (by omega)) ?_) | ((with_reducible intro hb0); revert hb0; with_reducible first | exact zB0 | refine zB fun hb => ?_ | fail) | ((with_reducible apply q_Meet); exact zM) | exact zC | refine zT ?_ | fail))
  | true =>
    rw [hx, Bool.true_and] at h
    refine FCon.intro PM _ Try.func36 (by kernel_rfl) rfl _ Try.ntmps36 rfl [(4, 7, [], [], (lin [] [0, 1, 2, 3, 4, 5, 6])), (10, 9, [8], [(8, 0), (8, 1), (8, 2), (8, 3), (8, 4)], (lin [8] [0, 1, 2, 3, 4, 5, 6, 7, 8]))] (by decide +kernel) (by simp) (by simp) rfl (by first | rfl | simp only [go_sem]) ?_
    (have hWf := WFx.mk (And.intro @hx <| @h); repeat' (first | refine zS ?_ | exact zE | with_reducible apply And.intro | ((with_reducible apply q_CallG); refine zG (c_implTyOk xs hox (by omega)) ?_) | ((with_reducible apply q_CallQ); refine CallQ_mk (c_implTyOk xs hox (by omega)) ?_) | ((with_reducible apply q_CallG); refine zG (c_implTyOk ys hoy (by omega)) ?_) | ((with_reducible apply q_CallQ); refine CallQ_mk (c_implTyOk ys hoy (by omega)) ?_) | ((with_reducible intro hb0); revert hb0; with_reducible first | exact zB0 | refine zB fun hb => ?_ | fail) | ((with_reducible apply q_Meet); exact zM) | exact zC | refine zT ?_ | fail))
theorem c_specUnify_ok (xs ys : List TyI) (hox : ∀ x ∈ xs, x.ok) (hoy : ∀ y ∈ ys, y.ok) (hlx : xs.length ≤ 1048576) (hly : ys.length ≤ 1048576) (hx : tyOkM xs = true) (hy : tyOkM ys = true) {n : Nat} {r : List SubM × Int} (hU : UOk n [] xs ys) (hr : uniM n [] xs ys = some r) : FCon Try.prog 35 [.ag [.sl 3 (xs.map TyI.enc)], .ag [.sl 3 (ys.map TyI.enc)]] (fun q _ => q = ansU r) := by
  have hc := c_l05Unify n [] xs ys r hU hr
  have hc' : FCon Try.prog 89 [.ag [.sl 3 (xs.map TyI.enc)], .ag [.sl 3 (ys.map TyI.enc)], .nil] (fun q _ => q = ansU r) := hc.arg _ rfl fun j d' d h1 h2 g w u hu => by
      match j, h1, h2 with
      | 0, h1, h2 => rw [← Option.some.inj h2, Option.some.inj h1]; exact hu
      | 1, h1, h2 => rw [← Option.some.inj h2, Option.some.inj h1]; exact hu
      | 2, h1, h2 =>
        rw [← Option.some.inj h2]; rw [← Option.some.inj h1] at hu
        exact RA_nilS hu
      | j + 3, h1, h2 => simp at h1
  by_cases hz : r.2 = 0
  · rw [ansU_0 hz] at hc' ⊢
    refine FCon.intro PM _ Try.func35 (by kernel_rfl) rfl _ Try.ntmps35 rfl [] (by decide +kernel) (by simp) (by simp) rfl (by first | rfl | simp only [go_sem]) ?_
    (have hWf := WFx.mk (And.intro @hx <| @hy); repeat' (first | refine zS ?_ | exact zE | with_reducible apply And.intro | ((with_reducible apply q_CallG); refine zG (c_specTyOk xs hox (by omega)) ?_) | ((with_reducible apply q_CallQ); refine CallQ_mk (c_specTyOk xs hox (by omega)) ?_) | ((with_reducible apply q_CallG); refine zG (c_specTyOk ys hoy (by omega)) ?_) | ((with_reducible apply q_CallQ); refine CallQ_mk (c_specTyOk ys hoy (by omega)) ?_) | refine zK (hc') ?_ | ((with_reducible intro hb0); revert hb0; with_reducible first | exact zB0 | refine zB fun hb => ?_ | fail) | ((with_reducible apply q_Meet); exact zM) | exact zC | refine zT ?_ | fail))
  · rw [ansU_n hz] at hc' ⊢
    refine FCon.intro PM _ Try.func35 (by kernel_rfl) rfl _ Try.ntmps35 rfl [] (by decide +kernel) (by simp) (by simp) rfl (by first | rfl | simp only [go_sem]) ?_
    (have hWf := WFx.mk (And.intro @hx <| @hy); repeat' (first | refine zS ?_ | exact zE | with_reducible apply And.intro | ((with_reducible apply q_CallG); refine zG (c_specTyOk xs hox (by omega)) ?_) | ((with_reducible apply q_CallQ); refine CallQ_mk (c_specTyOk xs hox (by omega)) ?_) | ((with_reducible apply q_CallG); refine zG (c_specTyOk ys hoy (by omega)) ?_) | ((with_reducible apply q_CallQ); refine CallQ_mk (c_specTyOk ys hoy (by omega)) ?_) | refine zK (hc') ?_ | ((with_reducible intro hb0); revert hb0; with_reducible first | exact zB0 | refine zB fun hb => ?_ | fail) | ((with_reducible apply q_Meet); exact zM) | exact zC | refine zT ?_ | fail))
set_option maxRecDepth 100000 in
set_option maxHeartbeats 2000000 in
theorem c_implUnify_ok (xs ys : List TyI) (hox : ∀ x ∈ xs, x.ok) (hoy : ∀ y ∈ ys, y.ok) (hlx : xs.length ≤ 1048576) (hly : ys.length ≤ 1048576) (hx : tyOkM xs = true) (hy : tyOkM ys = true) {n : Nat} {r : List SubM × Int} (hU : UOk n [] xs ys) (hr : uniM n [] xs ys = some r) (hp : r.2 = 0 → r.1.length ≤ 1000000 ∧ ∀ s ∈ r.1, 0 < s.ty.length ∧ s.ty.length ≤ 1000000) : FCon Try.prog 36 [.ag [.sl 3 (xs.map TyI.enc)], .ag [.sl 3 (ys.map TyI.enc)]] (fun q _ => q = .tup [.osl 77 2 ((resU r).map SubM.own), .s (.int .i64 r.2)]) := by
  have hc := c_unify n [] xs ys r hU hr
  have hc := hc.arg [.opt [.nil], .sl 3 (xs.map TyI.enc), .sl 3 (ys.map TyI.enc)] rfl fun j d' d h1 h2 g w u hu => by
      match j, h1, h2 with
      | 0, h1, h2 =>
        rw [← Option.some.inj h2]; rw [← Option.some.inj h1] at hu
        exact RA_nilO hu
      | 1, h1, h2 => rw [← Option.some.inj h2, Option.some.inj h1]; exact hu
      | 2, h1, h2 => rw [← Option.some.inj h2, Option.some.inj h1]; exact hu
      | j + 3, h1, h2 => simp at h1
  have px := (tyOkM_wfV hx).pos
  have py := (tyOkM_wfV hy).pos
  by_cases hz : r.2 = 0
  · have e1 : (r.2 != 0) = false := by simp [hz]
    obtain ⟨hpl, hp⟩ := hp hz
    rw [hz]
    have hres : resU r = r.1 := if_pos hz
    rw [hres]
    refine FCon.intro PM _ Try.func36 (by kernel_rfl) rfl _ Try.ntmps36 rfl [(4, 7, [], [], (lin [] [0, 1, 2, 3, 4, 5, 6])), (10, 9, [8], [(8, 0), (8, 1), (8, 2), (8, 3), (8, 4)], (lin [8] [0, 1, 2, 3, 4, 5, 6, 7, 8]))] (by decide +kernel) (by simp) (by simp) rfl (by first | rfl | simp only [go_sem]) ?_
    (have hWf := WFx.mk (And.intro @hx <| And.intro @hy <| @e1); repeat' (first | refine zS ?_ | exact zE | with_reducible apply And.intro | ((with_reducible apply q_CallG); refine zG (c_implTyOk xs hox (by omega)) ?_) | ((with_reducible apply q_CallQ); refine CallQ_mk (c_implTyOk xs hox (by omega)) ?_) | ((with_reducible apply q_CallG); refine zG (c_implTyOk ys hoy (by omega)) ?_) | ((with_reducible apply q_CallQ); refine CallQ_mk (c_implTyOk ys hoy (by omega)) ?_) | ((with_reducible apply q_CallG); refine zG (c_Clone_Ty xs px (by omega)) ?_) | ((with_reducible apply q_CallQ); refine CallQ_mk (c_Clone_Ty xs px (by omega)) ?_) | ((with_reducible apply q_CallG); refine zG (c_Clone_Ty ys py (by omega)) ?_) | ((with_reducible apply q_CallQ); refine CallQ_mk (c_Clone_Ty ys py (by omega)) ?_) | ((with_reducible apply q_CallG); refine CallG_mk (hc) ?_; rintro _ _ ⟨rfl, rfl⟩) | ((with_reducible apply q_CallQ); refine CallQ_mk (hc) ?_) | ((with_reducible intro hb0); revert hb0; with_reducible first | exact zB0 | refine zB fun hb => ?_ | fail) | ((with_reducible apply q_Meet); exact zM) | exact zC | refine zT ?_ | fail))
    refine AC_loop (fun n σ => ∃ k : Nat, k ≤ r.1.length ∧ n = r.1.length - k ∧ σ.t 6 = .bx 19 0 ∧ σ.t 34 = .bs 1000019 2 r.1.length ∧ σ.t 35 = .s (.int .i64 r.1.length) ∧ σ.t 36 = .s (.int .i64 k) ∧ σ.b 19 = some (.box [.bs 1000019 2 r.1.length]) ∧ σ.b 1000019 = some (.arr 77 2 (mixU r.1 k))) r.1.length ⟨0, by omega, by omega, ?_⟩ ?_
    · simp only [go_sem, simprocAttr, Int.natCast_zero, mixU_zero]
    · rintro n σ ⟨k, hk, rfl, h6, h34, h35, h36, b0, b1⟩ K' hK
      have hml := mixU_len r.1 k
      by_cases hlt : k < r.1.length
      · have hx := mixU_get hlt
        have he := SubM.enc_eq r.1[k]
        have hst := mixU_set hlt
        rw [SubM.own_eq] at hst
        obtain ⟨p1, p2⟩ := hp r.1[k] (List.getElem_mem hlt)
        have hcl := c_Clone_Ty r.1[k].ty p1 (by omega)
        (have hWf := WFx.mk (And.intro @h6 <| And.intro @h34 <| And.intro @h35 <| And.intro @h36 <| And.intro @b0 <| And.intro @b1 <| And.intro @hx <| And.intro @he <| And.intro @hml <| @hst); repeat' (first | refine zS ?_ | exact zE | with_reducible apply And.intro | ((with_reducible apply q_CallE); refine CallE_mk (FCon.noout hcl) ?_) | ((with_reducible intro hb0); revert hb0; with_reducible first | exact zB0 | refine zB fun hb => ?_ | fail) | ((with_reducible apply q_Meet); exact zM) | exact zC | refine zT ?_ | fail))
        refine hK (r.1.length - (k + 1)) _ (by omega) ⟨k + 1, by omega, rfl, ?_⟩
        simp only [go_sem, simprocAttr, h6, h34, h35, h36, b0, b1, Int.natCast_succ, hst]
      · obtain rfl : k = r.1.length := by omega
        rw [mixU_all] at b1
        (have hWf := WFx.mk (And.intro @h6 <| And.intro @h34 <| And.intro @h35 <| And.intro @h36 <| And.intro @b0 <| @b1); repeat' (first | refine zS ?_ | exact zE | with_reducible apply And.intro | ((with_reducible intro hb0); revert hb0; with_reducible first | exact zB0 | refine zB fun hb => ?_ | fail) | ((with_reducible apply q_Meet); exact zM) | exact zC | refine zT ?_ | fail))
  · have e1 : (r.2 != 0) = true := by simp [hz]
    have hres : resU r = [] := if_neg hz
    rw [hres]
    refine FCon.tupO ?_
    refine FCon.intro PM _ Try.func36 (by kernel_rfl) rfl _ Try.ntmps36 rfl [(4, 7, [], [], (lin [] [0, 1, 2, 3, 4, 5, 6])), (10, 9, [8], [(8, 0), (8, 1), (8, 2), (8, 3), (8, 4)], (lin [8] [0, 1, 2, 3, 4, 5, 6, 7, 8]))] (by decide +kernel) (by simp) (by simp) rfl (by first | rfl | simp only [go_sem]) ?_
    (have hWf := WFx.mk (And.intro @hx <| And.intro @hy <| @e1); repeat' (first | refine zS ?_ | exact zE | with_reducible apply And.intro | ((with_reducible apply q_CallG); refine zG (c_implTyOk xs hox (by omega)) ?_) | ((with_reducible apply q_CallQ); refine CallQ_mk (c_implTyOk xs hox (by omega)) ?_) | ((with_reducible apply q_CallG); refine zG (c_implTyOk ys hoy (by omega)) ?_) | ((with_reducible apply q_CallQ); refine CallQ_mk (c_implTyOk ys hoy (by omega)) ?_) | ((with_reducible apply q_CallG); refine zG (c_Clone_Ty xs px (by omega)) ?_) | ((with_reducible apply q_CallQ); refine CallQ_mk (c_Clone_Ty xs px (by omega)) ?_) | ((with_reducible apply q_CallG); refine zG (c_Clone_Ty ys py (by omega)) ?_) | ((with_reducible apply q_CallQ); refine CallQ_mk (c_Clone_Ty ys py (by omega)) ?_) | ((with_reducible apply q_CallG); refine CallG_mk (hc) ?_; rintro _ _ ⟨rfl, rfl⟩) | ((with_reducible apply q_CallQ); refine CallQ_mk (hc) ?_) | ((with_reducible intro hb0); revert hb0; with_reducible first | exact zB0 | refine zB fun hb => ?_ | fail) | ((with_reducible apply q_Meet); exact zM) | exact zC | refine zT ?_ | fail))
/-- what both sides answer. -/
structure UniAns (P : TyI → Prop) (xs ys : List TyI) (l : List SubM) (c : Int) : Prop where
  impl : FCon Try.prog 36 [.ag [.sl 3 (xs.map TyI.enc)], .ag [.sl 3 (ys.map TyI.enc)]] (fun q _ => q = .tup [.osl 77 2 (l.map SubM.own), .s (.int .i64 c)])
  spec : FCon Try.prog 35 [.ag [.sl 3 (xs.map TyI.enc)], .ag [.sl 3 (ys.map TyI.enc)]] (fun q _ => q = .tup [.sl 2 (l.map SubM.enc), .s (.int .i64 c)])
  no : c ≠ 0 → l = []
  ok : c = 0 → tyOkM xs = true ∧ tyOkM ys = true ∧ UPost (uniQ P (varsM (xs ++ ys))) (varsM (xs ++ ys)) [] xs ys l
  len : l.length ≤ 400
theorem uni_both {P : TyI → Prop} (xs ys : List TyI) (hox : ∀ x ∈ xs, x.ok) (hoy : ∀ y ∈ ys, y.ok) (hlx : xs.length ≤ 1048576) (hly : ys.length ≤ 1048576) (pxs : ∀ x ∈ xs, P x) (pys : ∀ y ∈ ys, P y) : ∃ l c, UniAns P xs ys l c := by
  cases h : (tyOkM xs && tyOkM ys) with
  | false => exact ⟨[], 1, (c_implUnify_bad xs ys hox hoy hlx hly h).tupO, (c_specUnify_bad xs ys hox hoy hlx hly h).tupS, fun _ => rfl, fun h => (by cases h), Nat.zero_le _⟩
  | true =>
    simp only [Bool.and_eq_true] at h
    obtain ⟨hx, hy⟩ := h
    obtain ⟨n, r, hU, hr, hp⟩ := uni_run (P := P) hx hy pxs pys
    have hlen : r.2 = 0 → r.1.length ≤ 400 := fun hz => by
      have h0 := (hp hz).room
      have h1 : unb (varsM (xs ++ ys)) [] ≤ (varsM (xs ++ ys)).length := List.length_filter_le _ _
      have h2 := varsM_len' (xs ++ ys)
      have hlx : xs.length ≤ 200 := by unfold tyOkM at hx; simp only [Bool.and_eq_true, decide_eq_true_eq] at hx; exact hx.1
      have hly : ys.length ≤ 200 := by unfold tyOkM at hy; simp only [Bool.and_eq_true, decide_eq_true_eq] at hy; exact hy.1
      rw [List.length_append] at h2
      simp only [List.length_nil] at h0
      omega
    have hi := c_implUnify_ok xs ys hox hoy hlx hly hx hy hU hr fun hz => ⟨by have := hlen hz; omega, fun s hs => ⟨((hp hz).good.wf s hs).pos, by have := (hp hz).good.len s hs; omega⟩⟩
    have hs := c_specUnify_ok xs ys hox hoy hlx hly hx hy hU hr
    refine ⟨resU r, r.2, hi, ?_, fun h => if_neg h, fun h => ⟨hx, hy, ?_⟩, ?_⟩
    · by_cases hz : r.2 = 0
      · rw [ansU_0 hz] at hs
        rw [hz, show resU r = r.1 from if_pos hz]; exact hs
      · rw [ansU_n hz] at hs
        rw [show resU r = [] from if_neg hz]; exact hs.tupS
    · rw [show resU r = r.1 from if_pos h]; exact hp h
    · unfold resU
      split
      · exact hlen (by assumption)
      · exact Nat.zero_le _
end Go.Proofs.Ytngobmjdbjlkcaa

/- What the solver finds is right, and what it makes of a type fits it: plain. -/
namespace Go.Proofs.Ytngobmjdbjlkcaa
set_option linter.unusedVariables false
set_option linter.unusedSimpArgs false
open Go.RowKit
theorem wfV_tyOk {xs : List TyI} (h : wfV xs) (hi : ∀ x ∈ xs, itemM x = true) (hl : xs.length ≤ 200) : tyOkM xs = true := by
  unfold tyOkM tyItemsM
  simp only [Bool.and_eq_true, decide_eq_true_eq, List.all_eq_true]
  exact ⟨hl, hi, (rowT_one _).1 h.row⟩
theorem good_subs {Q : TyI → Prop} {l : List SubM} (hg : GoodL Q l) (hq : ∀ x, Q x → itemM x = true) : subsM l = true := by
  refine subsM_good (fun i hi => ?_) (fun i hi => ?_)
  · rw [subB_at hi]
    have hm := List.getElem_mem hi
    obtain ⟨x, hx, hb, hv⟩ := hg.vq _ hm
    have h0 : 0 ≤ x.v ∧ x.v ≤ 9999 := by
      have := hq x hx
      unfold itemM at this
      unfold varB at hb
      rw [if_pos hb] at this
      simp only [Bool.and_eq_true, decide_eq_true_eq, beq_iff_eq] at this
      omega
    have hr : riseB l i l[i].v = true := by
      cases i with
      | zero => rfl
      | succ j =>
        rw [riseB_succ (by omega)]
        have := List.pairwise_iff_getElem.1 hg.rise j (j + 1) (by omega) hi (by omega)
        simp; omega
    have ht := wfV_tyOk (hg.wf _ hm) (fun x h => hq x (hg.q _ hm x h)) (hg.len _ hm)
    rw [hr, ht]
    simp; omega
  · rw [crossB_at hi]
    have hm := List.getElem_mem hi
    have : clashB l l[i].ty = false := by
      unfold clashB
      rw [List.any_eq_false]
      intro v hv
      obtain ⟨x, hx, hb, rfl⟩ := (varsM_mem' _ _).1 hv
      have := lk_none.1 (hg.out _ hm x hx hb)
      simp only [Bool.not_eq_true, List.any_eq_false]
      intro s hs
      simpa using this s hs
    rw [this]; rfl
theorem put_tyOk {Q : TyI → Prop} {l : List SubM} (hg : GoodL Q l) (hq : ∀ x, Q x → itemM x = true) {xs : List TyI} (hx : tyOkM xs = true) (hQ : ∀ x ∈ xs, Q x) (hl : (putX l xs).length ≤ 200) : tyOkM (putX l xs) = true :=
  wfV_tyOk (hg.put (tyOkM_wfV hx)) (fun x h => hq x (hg.putQ hQ x h)) hl
theorem wf_one {x : TyI} (h : x.ar = 0) : wfV [x] := ⟨by unfold rowT; simp [arsM, h, scan], fun y hy => by simp at hy; subst hy; omega, fun y hy _ => by simp at hy; subst hy; exact h⟩
theorem endM_mid {A B C : List TyI} (hB : rowT 1 B) : endM (A ++ (B ++ C)) A.length = ((A.length + B.length : Nat) : Int) := by
  unfold endM
  rw [arsM_app, List.drop_left' (arsM_len A), arsM_app]
  have := scan_app (arsM B) (arsM C) 1 0 (by rw [arsM_len]; exact hB)
  rw [Nat.add_zero] at this
  rw [this, scan_zero]
  simp [arsM_len]
theorem seg_mid (A B C : List TyI) : seg (A ++ (B ++ C)) A.length (A.length + B.length) = B := by
  unfold seg
  rw [List.drop_left, Nat.add_sub_cancel_left, List.take_left]
theorem put_fits {Q : TyI → Prop} {l : List SubM} (hg : GoodL Q l) {xs : List TyI} (hx : tyOkM xs = true) (hy : tyOkM (putX l xs) = true) : fitsM xs (putX l xs) = true := by
  rw [fitsM_run hx hy]
  obtain ⟨hix, -, -⟩ := tyOkM_all hx
  have key : ∀ k, k ≤ xs.length → ∃ fl : List SubM, runF (putX l xs) (xs.take k) 0 [] = some ((putX l (xs.take k)).length, fl) ∧ ∀ s ∈ fl, ∀ x, varB x = true → x.ar = 0 → x.v = s.v → putI l x = s.ty := by
    intro k
    induction k with
    | zero => intro _; exact ⟨[], rfl, nofun⟩
    | succ k ih =>
      intro hk
      obtain ⟨fl, r1, hf⟩ := ih (by omega)
      have hlt : k < xs.length := hk
      have hsp : putX l xs = putX l (xs.take k) ++ (putI l xs[k] ++ putX l (xs.drop (k + 1))) := by
        rw [← putX_cons, ← putX_app, ← List.drop_eq_getElem_cons hlt, List.take_append_drop]
      have hmem := List.getElem_mem hlt
      rw [runF_take hlt, r1, Option.bind_some, putX_take l hlt, List.length_append]
      have hpos : 0 < (putI l xs[k]).length := by
        cases hb : varB xs[k] with
        | false => unfold putI; rw [if_neg (by rw [hb]; simp)]; simp
        | true =>
          have := (hg.put (wf_one (item_ar0 (hix _ hmem) hb))).pos
          rw [putX_cons, putX_nil, List.append_nil] at this
          exact this
      have hp : (putX l (xs.take k)).length < (putX l xs).length := by
        have := congrArg List.length hsp
        simp only [List.length_append] at this
        omega
      cases hb : varB xs[k] with
      | false =>
        have hone : putI l xs[k] = [xs[k]] := by unfold putI; rw [if_neg (by rw [hb]; simp)]
        have hget : (putX l xs)[(putX l (xs.take k)).length] = xs[k] := by
          have h2 : (putX l xs)[(putX l (xs.take k)).length]? = some xs[k] := by
            rw [hsp, hone, List.getElem?_append_right (Nat.le_refl _), Nat.sub_self]; rfl
          rw [List.getElem?_eq_getElem hp] at h2
          exact Option.some.inj h2
        refine ⟨fl, ?_, hf⟩
        rw [stepF_eq hp hb hget.symm, hone]; rfl
      | true =>
        have har := item_ar0 (hix _ hmem) hb
        have hw := hg.put (wf_one har)
        rw [putX_cons, putX_nil, List.append_nil] at hw
        have hend : endM (putX l xs) (putX l (xs.take k)).length = (((putX l (xs.take k)).length + (putI l xs[k]).length : Nat) : Int) := by
          conv => lhs; arg 1; rw [hsp]
          exact endM_mid hw.row
        have hseg : seg (putX l xs) (putX l (xs.take k)).length ((putX l (xs.take k)).length + (putI l xs[k]).length) = putI l xs[k] := by
          conv => lhs; arg 1; rw [hsp]
          exact seg_mid _ _ _
        cases hfd : fl.find? (fun s => s.v == xs[k].v) with
        | none =>
          refine ⟨_, stepF_new hp hb hend hfd, fun s hs x hxb hx0 hxv => ?_⟩
          rcases List.mem_append.1 hs with hs | hs
          · exact hf s hs x hxb hx0 hxv
          · simp only [List.mem_singleton] at hs
            subst hs
            have hxx : x = xs[k] := head_eq (by
              have h1 := hxb; have h2 := hb
              unfold varB at h1 h2
              rw [List.isEmpty_iff] at h1 h2
              rw [h1, h2]) hxv (by rw [hx0, har])
            show putI l x = seg _ _ _
            rw [hseg, hxx]
        | some s =>
          have hs := List.mem_of_find?_eq_some hfd
          have hv : s.v = xs[k].v := by have := List.find?_some hfd; simpa using this
          refine ⟨fl, ?_, hf⟩
          rw [stepF_old hp hb hend hfd, hseg, if_pos (hf s hs _ hb har hv.symm).symm]
  obtain ⟨fl, r, -⟩ := key xs.length (Nat.le_refl _)
  rw [List.take_length] at r
  rw [r]; rfl
end Go.Proofs.Ytngobmjdbjlkcaa
