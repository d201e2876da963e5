import Derived.Test.YtmopjpnghomdfaaFitsC
/- Fits: the run over the items, plain. -/
namespace Go.Proofs.Ytmopjpnghomdfaa
set_option linter.unusedVariables false
set_option linter.unusedSimpArgs false
instance : DecidableEq TyI := fun x y => decidable_of_iff (itemB x y = true) (itemB_iff x y)
/-- one item of the first type against the second from a place on. -/
def stepF (ys : List TyI) (x : TyI) (p : Nat) (l : List SubM) : Option (Nat × List SubM) :=
  match ys[p]? with
  | none => none
  | some y =>
    if x.name.toList.isEmpty = true then
      match l.find? (fun s => s.v == x.v) with
      | none => some ((endM ys p).toNat, l ++ [⟨x.v, seg ys p (endM ys p).toNat⟩])
      | some s => if s.ty = seg ys p (endM ys p).toNat then some ((endM ys p).toNat, l) else none
    else if x = y then some (p + 1, l) else none
def runF (ys : List TyI) : List TyI → Nat → List SubM → Option (Nat × List SubM)
  | [], p, l => some (p, l)
  | x :: xs, p, l => (stepF ys x p l).bind fun r => runF ys xs r.1 r.2
theorem runF_app (ys : List TyI) : ∀ (s1 s2 : List TyI) (p : Nat) (l : List SubM), runF ys (s1 ++ s2) p l = (runF ys s1 p l).bind fun r => runF ys s2 r.1 r.2
  | [], s2, p, l => rfl
  | x :: s1, s2, p, l => by
    simp only [List.cons_append, runF]
    cases stepF ys x p l with
    | none => rfl
    | some r => simp only [Option.bind_some]; exact runF_app ys s1 s2 r.1 r.2
/-- what Fits answers. -/
def fitsM (xs ys : List TyI) : Bool := tyOkM xs && (tyOkM ys && (runF ys xs 0 []).isSome)
theorem endsM_split (xs : List TyI) (k i j n : Nat) (h : endsM xs k i = (n : Int)) : endsM xs k (i + j) = endsM xs n j := by
  unfold endsM at h ⊢
  rw [scan_add]
  cases hs : scan ((arsM xs).drop k) i with
  | none =>
    rw [hs] at h
    have h2 : (-1 : Int) = (n : Int) := h
    omega
  | some q =>
    rw [hs] at h
    have h2 : ((k + q : Nat) : Int) = (n : Int) := h
    have h3 : n = k + q := by omega
    subst h3
    rw [Option.bind_some, List.drop_drop]
    cases scan ((arsM xs).drop (k + q)) j with
    | none => rfl
    | some z => simp; omega
/-- each item takes as many types of the second as are due: where the run ends. -/
theorem stepF_due {ys : List TyI} (hy : ∀ y ∈ ys, itemM y = true) {x : TyI} (hx : itemM x = true) {p m : Nat} {l : List SubM} {e : Int} (he : endsM ys p (m + 1) = e) (h0 : 0 ≤ e) {r : Nat × List SubM} (h : stepF ys x p l = some r) : endsM ys r.1 (m + x.ar.toNat) = e := by
  unfold stepF at h
  split at h
  · cases h
  · rename_i y hyp
    obtain ⟨hp, hyv⟩ := List.getElem?_eq_some_iff.1 hyp
    have hmin : endM ys p ≠ -1 := by
      intro q
      rw [endM_ends] at q
      have := endsM_neg ys p 1 (by omega) (m + 1) (by omega)
      omega
    split at h
    · rename_i hv
      have har : x.ar = 0 := by
        unfold itemM at hx
        rw [if_pos hv] at hx
        simp only [Bool.and_eq_true, beq_iff_eq] at hx
        exact hx.2
      have h1 : r.1 = (endM ys p).toNat := by
        split at h
        · injection h with h; rw [← h]
        · split at h
          · injection h with h; rw [← h]
          · cases h
      have hn : endsM ys p 1 = (((endM ys p).toNat : Nat) : Int) := by
        rw [← endM_ends]
        rcases Nat.lt_or_ge p ys.length with q | q
        · rcases endsM_bd ys p 1 (by omega) with z | ⟨z, hz, -⟩
          · rw [← endM_ends] at z; exact absurd z hmin
          · rw [← endM_ends] at hz; omega
        · omega
      have := endsM_split ys p 1 m _ hn
      rw [h1, har, ← he, show m + 1 = 1 + m by omega, this]
      rfl
    · split at h
      · rename_i hxy
        injection h with h
        rw [← h]
        rw [endsM_step ys p m hp, hyv, ← hxy] at he
        exact he
      · cases h
end Go.Proofs.Ytmopjpnghomdfaa
