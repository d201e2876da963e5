import Derived.Test.YtmopjpnghomdfaaFitsM
/- Fits: what the walks need of the plain run. -/
namespace Go.Proofs.Ytmopjpnghomdfaa
set_option linter.unusedVariables false
set_option linter.unusedSimpArgs false
theorem seg_enc (ys : List TyI) (k f : Nat) : ((ys.map TyI.enc).take f).drop k = (seg ys k f).map TyI.enc := by unfold seg; rw [List.drop_take, List.map_take, List.map_drop]
theorem seg_len {ys : List TyI} {k f : Nat} (h : f ≤ ys.length) : (seg ys k f).length = f - k := by unfold seg; simp; omega
theorem runF_one (ys : List TyI) (x : TyI) (p : Nat) (l : List SubM) : runF ys [x] p l = stepF ys x p l := by
  simp only [runF]
  cases stepF ys x p l <;> rfl
theorem runF_take {ys xs : List TyI} {k : Nat} (h : k < xs.length) : runF ys (xs.take (k + 1)) 0 [] = (runF ys (xs.take k) 0 []).bind fun r => stepF ys xs[k] r.1 r.2 := by
  rw [List.take_succ_eq_append_getElem h, runF_app]
  congr 1
  funext r
  exact runF_one ys _ _ _
theorem runF_stop {ys xs : List TyI} {k : Nat} (h : runF ys (xs.take k) 0 [] = none) : runF ys xs 0 [] = none := by
  conv => lhs; rw [← List.take_append_drop k xs]
  rw [runF_app, h]; rfl
theorem fidx_find {α : Type} (p : α → Bool) : ∀ l : List α, (fidx p l = -1 ∧ l.find? p = none) ∨ ∃ (k : Nat) (h : k < l.length), fidx p l = k ∧ l.find? p = some l[k]
  | [] => .inl ⟨rfl, rfl⟩
  | x :: l => by
    by_cases hp : p x = true
    · exact .inr ⟨0, by simp, by rw [fidx, if_pos hp]; rfl, by simp [List.find?, hp]⟩
    · have hp' : p x = false := by simpa using hp
      rcases fidx_find p l with ⟨h1, h2⟩ | ⟨k, hk, h1, h2⟩
      · exact .inl ⟨by rw [fidx, if_neg hp, h1]; rfl, by simp [List.find?, hp', h2]⟩
      · refine .inr ⟨k + 1, by simpa using hk, ?_, by simp [List.find?, hp', h2]⟩
        rw [fidx, if_neg hp, h1, if_neg (by omega)]; omega
theorem tyOkM_all {xs : List TyI} (h : tyOkM xs = true) : (∀ x ∈ xs, itemM x = true) ∧ endM xs 0 = xs.length ∧ xs.length ≤ 200 := by
  unfold tyOkM tyItemsM at h
  simp only [Bool.and_eq_true, decide_eq_true_eq, List.all_eq_true] at h
  exact ⟨h.2.1, h.2.2, h.1⟩
theorem fitsM_no1 {xs ys : List TyI} (h : (!tyOkM xs || !tyOkM ys) = true) : fitsM xs ys = false := by
  unfold fitsM
  cases h1 : tyOkM xs <;> cases h2 : tyOkM ys <;> simp_all
theorem fitsM_run {xs ys : List TyI} (h1 : tyOkM xs = true) (h2 : tyOkM ys = true) : fitsM xs ys = (runF ys xs 0 []).isSome := by unfold fitsM; rw [h1, h2]; rfl
/-- where types are due, the run ends at the end. -/
theorem due_lt {ys : List TyI} {p m : Nat} {e : Nat} (h : endsM ys p (m + 1) = (e : Int)) : p < ys.length := by
  rcases Nat.lt_or_ge p ys.length with q | q
  · exact q
  · rw [endsM_out ys p m q] at h; omega
theorem due_end {ys : List TyI} {p m : Nat} {e : Nat} (h : endsM ys p (m + 1) = (e : Int)) : ∃ f : Nat, endM ys p = f ∧ endsM ys f m = (e : Int) := by
  have hp := due_lt h
  have hmin : endM ys p ≠ -1 := by
    intro q
    rw [endM_ends] at q
    have := endsM_neg ys p 1 (by omega) (m + 1) (by omega)
    omega
  rcases endsM_bd ys p 1 (by omega) with z | ⟨f, hf, -⟩
  · rw [← endM_ends] at z; exact absurd z hmin
  · refine ⟨f, by rw [endM_ends]; exact hf, ?_⟩
    rw [← endsM_split ys p 1 m f hf, show 1 + m = m + 1 by omega]; exact h
theorem stepF_ne {ys : List TyI} {x : TyI} {p : Nat} {l : List SubM} (hp : p < ys.length) (hv : x.name.toList.isEmpty = false) (h : x ≠ ys[p]) : stepF ys x p l = none := by
  unfold stepF
  rw [List.getElem?_eq_getElem hp]
  simp [hv, h]
theorem stepF_eq {ys : List TyI} {x : TyI} {p : Nat} {l : List SubM} (hp : p < ys.length) (hv : x.name.toList.isEmpty = false) (h : x = ys[p]) : stepF ys x p l = some (p + 1, l) := by
  unfold stepF
  rw [List.getElem?_eq_getElem hp]
  simp only [hv, Bool.false_eq_true, if_false]
  rw [if_pos h]
theorem stepF_new {ys : List TyI} {x : TyI} {p f : Nat} {l : List SubM} (hp : p < ys.length) (hv : x.name.toList.isEmpty = true) (hf : endM ys p = f) (h : l.find? (fun s => s.v == x.v) = none) : stepF ys x p l = some (f, l ++ [⟨x.v, seg ys p f⟩]) := by
  unfold stepF
  rw [List.getElem?_eq_getElem hp]
  simp only [hv, if_true, h, hf, Int.toNat_natCast]
theorem stepF_old {ys : List TyI} {x : TyI} {p f : Nat} {l : List SubM} {s : SubM} (hp : p < ys.length) (hv : x.name.toList.isEmpty = true) (hf : endM ys p = f) (h : l.find? (fun s => s.v == x.v) = some s) : stepF ys x p l = if s.ty = seg ys p f then some (f, l) else none := by
  unfold stepF
  rw [List.getElem?_eq_getElem hp]
  simp only [hv, if_true, h, hf, Int.toNat_natCast]
theorem item_ar0 {x : TyI} (hx : itemM x = true) (hv : x.name.toList.isEmpty = true) : x.ar = 0 := by
  unfold itemM at hx
  rw [if_pos hv] at hx
  simp only [Bool.and_eq_true, beq_iff_eq] at hx
  exact hx.2
theorem item_v0 {x : TyI} (hx : itemM x = true) (hv : x.name.toList.isEmpty = false) : x.v = 0 := by
  unfold itemM at hx
  rw [if_neg (by rw [hv]; simp)] at hx
  simp only [Bool.and_eq_true, beq_iff_eq] at hx
  exact hx.1
end Go.Proofs.Ytmopjpnghomdfaa
