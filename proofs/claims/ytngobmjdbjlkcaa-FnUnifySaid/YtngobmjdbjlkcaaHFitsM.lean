import Derived.Test.YtngobmjdbjlkcaaHTyOk
import Derived.Test.YtngobmjdbjlkcaaSuB
import Derived.Test.YtngobmjdbjlkcaaTxB
import Derived.Test.YtngobmjdbjlkcaaTyInj
/- Fits: the run over the items, plain (for the second engine). -/
namespace Go.Proofs.Ytngobmjdbjlkcaa
set_option linter.unusedVariables false
set_option linter.unusedSimpArgs false
open Go.RowKit
theorem endsM_step (xs : List TyI) (k m : Nat) (h : k < xs.length) : endsM xs k (m + 1) = endsM xs (k + 1) (m + xs[k].ar.toNat) := by
  unfold endsM
  rw [arsM_drop xs k h, scan]
  cases scan ((arsM xs).drop (k + 1)) (m + xs[k].ar.toNat) with
  | none => rfl
  | some j => simp; omega
theorem endsM_out (xs : List TyI) (k m : Nat) (h : xs.length ≤ k) : endsM xs k (m + 1) = -1 := by
  unfold endsM
  have : (arsM xs).drop k = [] := List.drop_eq_nil_of_le (by simpa [arsM] using h)
  rw [this]; rfl
def itemB (x y : TyI) : Bool := (x.v == y.v) && ((x.name.toList == y.name.toList) && ((x.ar == y.ar) && true))
theorem itemB_iff (x y : TyI) : itemB x y = true ↔ x = y := by
  constructor
  · intro h
    unfold itemB at h
    simp only [Bool.and_eq_true, beq_iff_eq] at h
    obtain ⟨h1, h2, h3, -⟩ := h
    obtain ⟨v, ⟨⟨l⟩⟩, a⟩ := x
    obtain ⟨u, ⟨⟨m⟩⟩, b⟩ := y
    rw [ByteArray.toList_eq, ByteArray.toList_eq] at h2
    simp only at h1 h2 h3
    subst h1 h2 h3
    rfl
  · rintro rfl
    simp [itemB]
instance : DecidableEq TyI := fun x y => decidable_of_iff (itemB x y = true) (itemB_iff x y)
/-- one item of the first type against the second from a place on. -/
def stepF (ys : List TyI) (x : TyI) (p : Nat) (l : List SubM) : Option (Nat × List SubM) :=
  match ys[p]? with
  | none => none
  | some y =>
    if x.name.toList.isEmpty = true then
      match l.find? (fun s => s.v == x.v) with
      | none => some ((endM ys p).toNat, l ++ [⟨x.v, seg ys p (endM ys p).toNat⟩])
      | some s => if s.ty = seg ys p (endM ys p).toNat then some ((endM ys p).toNat, l) else none
    else if x = y then some (p + 1, l) else none
def runF (ys : List TyI) : List TyI → Nat → List SubM → Option (Nat × List SubM)
  | [], p, l => some (p, l)
  | x :: xs, p, l => (stepF ys x p l).bind fun r => runF ys xs r.1 r.2
theorem runF_app (ys : List TyI) : ∀ (s1 s2 : List TyI) (p : Nat) (l : List SubM), runF ys (s1 ++ s2) p l = (runF ys s1 p l).bind fun r => runF ys s2 r.1 r.2
  | [], s2, p, l => rfl
  | x :: s1, s2, p, l => by
    simp only [List.cons_append, runF]
    cases stepF ys x p l with
    | none => rfl
    | some r => simp only [Option.bind_some]; exact runF_app ys s1 s2 r.1 r.2
/-- what Fits answers. -/
def fitsM (xs ys : List TyI) : Bool := tyOkM xs && (tyOkM ys && (runF ys xs 0 []).isSome)
theorem endsM_split (xs : List TyI) (k i j n : Nat) (h : endsM xs k i = (n : Int)) : endsM xs k (i + j) = endsM xs n j := by
  unfold endsM at h ⊢
  rw [scan_add]
  cases hs : scan ((arsM xs).drop k) i with
  | none =>
    rw [hs] at h
    have h2 : (-1 : Int) = (n : Int) := h
    omega
  | some q =>
    rw [hs] at h
    have h2 : ((k + q : Nat) : Int) = (n : Int) := h
    have h3 : n = k + q := by omega
    subst h3
    rw [Option.bind_some, List.drop_drop]
    cases scan ((arsM xs).drop (k + q)) j with
    | none => rfl
    | some z => simp; omega
/-- each item takes as many types of the second as are due: where the run ends. -/
theorem stepF_due {ys : List TyI} (hy : ∀ y ∈ ys, itemM y = true) {x : TyI} (hx : itemM x = true) {p m : Nat} {l : List SubM} {e : Int} (he : endsM ys p (m + 1) = e) (h0 : 0 ≤ e) {r : Nat × List SubM} (h : stepF ys x p l = some r) : endsM ys r.1 (m + x.ar.toNat) = e := by
  unfold stepF at h
  split at h
  · cases h
  · rename_i y hyp
    obtain ⟨hp, hyv⟩ := List.getElem?_eq_some_iff.1 hyp
    have hmin : endM ys p ≠ -1 := by
      intro q
      rw [endM_ends] at q
      have := endsM_neg ys p 1 (by omega) (m + 1) (by omega)
      omega
    split at h
    · rename_i hv
      have har : x.ar = 0 := by
        unfold itemM at hx
        rw [if_pos hv] at hx
        simp only [Bool.and_eq_true, beq_iff_eq] at hx
        exact hx.2
      have h1 : r.1 = (endM ys p).toNat := by
        split at h
        · injection h with h; rw [← h]
        · split at h
          · injection h with h; rw [← h]
          · cases h
      have hn : endsM ys p 1 = (((endM ys p).toNat : Nat) : Int) := by
        rw [← endM_ends]
        rcases Nat.lt_or_ge p ys.length with q | q
        · rcases endsM_bd ys p 1 (by omega) with z | ⟨z, hz, -⟩
          · rw [← endM_ends] at z; exact absurd z hmin
          · rw [← endM_ends] at hz; omega
        · omega
      have := endsM_split ys p 1 m _ hn
      rw [h1, har, ← he, show m + 1 = 1 + m by omega, this]
      rfl
    · split at h
      · rename_i hxy
        injection h with h
        rw [← h]
        rw [endsM_step ys p m hp, hyv, ← hxy] at he
        exact he
      · cases h
theorem seg_enc (ys : List TyI) (k f : Nat) : ((ys.map TyI.enc).take f).drop k = (seg ys k f).map TyI.enc := by unfold seg; rw [List.drop_take, List.map_take, List.map_drop]
theorem seg_len {ys : List TyI} {k f : Nat} (h : f ≤ ys.length) : (seg ys k f).length = f - k := by unfold seg; simp; omega
theorem runF_one (ys : List TyI) (x : TyI) (p : Nat) (l : List SubM) : runF ys [x] p l = stepF ys x p l := by
  simp only [runF]
  cases stepF ys x p l <;> rfl
theorem runF_take {ys xs : List TyI} {k : Nat} (h : k < xs.length) : runF ys (xs.take (k + 1)) 0 [] = (runF ys (xs.take k) 0 []).bind fun r => stepF ys xs[k] r.1 r.2 := by
  rw [List.take_succ_eq_append_getElem h, runF_app]
  congr 1
  funext r
  exact runF_one ys _ _ _
theorem runF_stop {ys xs : List TyI} {k : Nat} (h : runF ys (xs.take k) 0 [] = none) : runF ys xs 0 [] = none := by
  conv => lhs; rw [← List.take_append_drop k xs]
  rw [runF_app, h]; rfl
theorem fidx_findF {α : Type} (p : α → Bool) : ∀ l : List α, (fidx p l = -1 ∧ l.find? p = none) ∨ ∃ (k : Nat) (h : k < l.length), fidx p l = k ∧ l.find? p = some l[k]
  | [] => .inl ⟨rfl, rfl⟩
  | x :: l => by
    by_cases hp : p x = true
    · exact .inr ⟨0, by simp, by rw [fidx, if_pos hp]; rfl, by simp [List.find?, hp]⟩
    · have hp' : p x = false := by simpa using hp
      rcases fidx_findF p l with ⟨h1, h2⟩ | ⟨k, hk, h1, h2⟩
      · exact .inl ⟨by rw [fidx, if_neg hp, h1]; rfl, by simp [List.find?, hp', h2]⟩
      · refine .inr ⟨k + 1, by simpa using hk, ?_, by simp [List.find?, hp', h2]⟩
        rw [fidx, if_neg hp, h1, if_neg (by omega)]; omega
theorem tyOkM_all {xs : List TyI} (h : tyOkM xs = true) : (∀ x ∈ xs, itemM x = true) ∧ endM xs 0 = xs.length ∧ xs.length ≤ 200 := by
  unfold tyOkM tyItemsM at h
  simp only [Bool.and_eq_true, decide_eq_true_eq, List.all_eq_true] at h
  exact ⟨h.2.1, h.2.2, h.1⟩
theorem fitsM_no1 {xs ys : List TyI} (h : (!tyOkM xs || !tyOkM ys) = true) : fitsM xs ys = false := by
  unfold fitsM
  cases h1 : tyOkM xs <;> cases h2 : tyOkM ys <;> simp_all
theorem fitsM_run {xs ys : List TyI} (h1 : tyOkM xs = true) (h2 : tyOkM ys = true) : fitsM xs ys = (runF ys xs 0 []).isSome := by unfold fitsM; rw [h1, h2]; rfl
/-- where types are due, the run ends at the end. -/
theorem due_lt {ys : List TyI} {p m : Nat} {e : Nat} (h : endsM ys p (m + 1) = (e : Int)) : p < ys.length := by
  rcases Nat.lt_or_ge p ys.length with q | q
  · exact q
  · rw [endsM_out ys p m q] at h; omega
theorem due_end {ys : List TyI} {p m : Nat} {e : Nat} (h : endsM ys p (m + 1) = (e : Int)) : ∃ f : Nat, endM ys p = f ∧ endsM ys f m = (e : Int) := by
  have hp := due_lt h
  have hmin : endM ys p ≠ -1 := by
    intro q
    rw [endM_ends] at q
    have := endsM_neg ys p 1 (by omega) (m + 1) (by omega)
    omega
  rcases endsM_bd ys p 1 (by omega) with z | ⟨f, hf, -⟩
  · rw [← endM_ends] at z; exact absurd z hmin
  · refine ⟨f, by rw [endM_ends]; exact hf, ?_⟩
    rw [← endsM_split ys p 1 m f hf, show 1 + m = m + 1 by omega]; exact h
theorem stepF_ne {ys : List TyI} {x : TyI} {p : Nat} {l : List SubM} (hp : p < ys.length) (hv : x.name.toList.isEmpty = false) (h : x ≠ ys[p]) : stepF ys x p l = none := by
  unfold stepF
  rw [List.getElem?_eq_getElem hp]
  simp [hv, h]
theorem stepF_eq {ys : List TyI} {x : TyI} {p : Nat} {l : List SubM} (hp : p < ys.length) (hv : x.name.toList.isEmpty = false) (h : x = ys[p]) : stepF ys x p l = some (p + 1, l) := by
  unfold stepF
  rw [List.getElem?_eq_getElem hp]
  simp only [hv, Bool.false_eq_true, if_false]
  rw [if_pos h]
theorem stepF_new {ys : List TyI} {x : TyI} {p f : Nat} {l : List SubM} (hp : p < ys.length) (hv : x.name.toList.isEmpty = true) (hf : endM ys p = f) (h : l.find? (fun s => s.v == x.v) = none) : stepF ys x p l = some (f, l ++ [⟨x.v, seg ys p f⟩]) := by
  unfold stepF
  rw [List.getElem?_eq_getElem hp]
  simp only [hv, if_true, h, hf, Int.toNat_natCast]
theorem stepF_old {ys : List TyI} {x : TyI} {p f : Nat} {l : List SubM} {s : SubM} (hp : p < ys.length) (hv : x.name.toList.isEmpty = true) (hf : endM ys p = f) (h : l.find? (fun s => s.v == x.v) = some s) : stepF ys x p l = if s.ty = seg ys p f then some (f, l) else none := by
  unfold stepF
  rw [List.getElem?_eq_getElem hp]
  simp only [hv, if_true, h, hf, Int.toNat_natCast]
theorem item_ar0 {x : TyI} (hx : itemM x = true) (hv : x.name.toList.isEmpty = true) : x.ar = 0 := by
  unfold itemM at hx
  rw [if_pos hv] at hx
  simp only [Bool.and_eq_true, beq_iff_eq] at hx
  exact hx.2
theorem item_v0 {x : TyI} (hx : itemM x = true) (hv : x.name.toList.isEmpty = false) : x.v = 0 := by
  unfold itemM at hx
  rw [if_neg (by rw [hv]; simp)] at hx
  simp only [Bool.and_eq_true, beq_iff_eq] at hx
  exact hx.1
end Go.Proofs.Ytngobmjdbjlkcaa
