import Derived.Test.YtahdaknaoogpkaaGreatTyTxtM
import Derived.Test.YtahdaknaoogpkaaGreatBase
/- The text of a type: its parts, its length. -/
namespace Go.Proofs.YtahdaknaoogpkaaGreat
set_option linter.unusedVariables false
theorem endM_bd (xs : List TyI) (k e : Nat) (h : endM xs k = e) : k < e ∧ e ≤ xs.length ∧ k < xs.length := by
  by_cases hk : k < xs.length
  · rw [endM_step xs k hk] at h
    rcases endsM_bd xs (k + 1) xs[k].ar.toNat hk with h' | ⟨n, h', h1, h2⟩ <;> omega
  · rw [endM_end xs k (by omega)] at h; omega
theorem endM_none (xs : List TyI) (k e : Nat) (hk : k < xs.length) (h : endM xs k = e) (ha : xs[k].ar = 0) : e = k + 1 := by
  rw [endM_step xs k hk, ha] at h
  have := endsM_zero xs (k + 1)
  simp only [Int.toNat_zero] at h
  omega
theorem endM_one (xs : List TyI) (k e : Nat) (hk : k < xs.length) (h : endM xs k = e) (ha : xs[k].ar = 1) : endM xs (k + 1) = e := by
  rw [endM_step xs k hk, ha] at h
  rw [endM_ends]; exact h
theorem endM_two (xs : List TyI) (k e : Nat) (hk : k < xs.length) (h : endM xs k = e) (ha : xs[k].ar = 2) : ∃ e1 : Nat, endM xs (k + 1) = e1 ∧ endM xs e1 = e := by
  rw [endM_step xs k hk, ha] at h
  have h2 : endsM xs (k + 1) 2 = e := h
  rcases endsM_bd xs (k + 1) 1 hk with h' | ⟨n, h', h1, hn⟩
  · have := endsM_neg xs (k + 1) 1 (by omega) 2 (by omega)
    omega
  · refine ⟨n, by rw [endM_ends]; exact h', ?_⟩
    rw [← endsM_succ xs (k + 1) 1 n h']; exact h2
theorem nameM_len {s : ByteArray} (h : nameM s = true) : s.size ≤ 12 := by
  unfold nameM wordM at h
  simp only [Bool.and_eq_true, decide_eq_true_eq] at h
  have : s.size = s.data.toList.length := rfl
  omega
theorem toList_len (s : ByteArray) : s.toList.length = s.size := by
  rw [ByteArray.toList_eq]; rfl
theorem itemM_len {x : TyI} (h : itemM x = true) : x.name.size ≤ 12 := by
  unfold itemM at h
  have hl := toList_len x.name
  split at h
  · rename_i he
    rw [List.isEmpty_iff] at he
    rw [he] at hl; simp at hl; omega
  · simp only [Bool.and_eq_true] at h
    have h := h.2
    split at h
    · rename_i he
      simp only [Bool.or_eq_true, beq_iff_eq] at he
      rcases he with he | he <;> (rw [he] at hl; simp at hl; omega)
    · split at h
      · rename_i he
        simp only [beq_iff_eq] at he
        rw [he] at hl; simp at hl; omega
      · simp only [Bool.and_eq_true] at h
        exact nameM_len h.1.1
theorem varT_len (v : Int) : (varT v).length ≤ 22 := by
  unfold varT
  split
  · have := numT_len v
    simp; omega
  · simp
theorem textT_len (xs : List TyI) (hit : ∀ x ∈ xs, itemM x = true) : ∀ (n k e : Nat), endM xs k = e → (textT xs n k).length ≤ 40 * (e - k) := by
  intro n
  induction n with
  | zero => intro k e h; simp [textT]
  | succ n ih =>
    intro k e h
    obtain ⟨h1, h2, hk⟩ := endM_bd xs k e h
    have hx := hit _ (List.getElem_mem hk)
    have hn := itemM_len hx
    have hn' : xs[k].name.data.toList.length ≤ 12 := hn
    obtain ⟨a0, a1⟩ := itemM_ar hx
    rw [textT_at xs n k hk]
    split
    · have := varT_len xs[k].v; omega
    · split
      · omega
      · split
        · rename_i ha
          have he := ih (k + 1) e (endM_one xs k e hk h ha)
          simp only [List.length_append, List.length_cons, List.length_nil]
          omega
        · have ha : xs[k].ar = 2 := by omega
          obtain ⟨e1, q1, q2⟩ := endM_two xs k e hk h ha
          have he := ih (k + 1) e1 q1
          obtain ⟨b1, b2, b3⟩ := endM_bd xs (k + 1) e1 q1
          obtain ⟨b4, b5, b6⟩ := endM_bd xs e1 e q2
          have he2 := ih e1 e q2
          have ht : (endM xs (k + 1)).toNat = e1 := by omega
          rw [ht]
          split
          · simp only [List.length_append, List.length_cons, List.length_nil]
            omega
          · simp only [List.length_append, List.length_cons, List.length_nil]
            omega
end Go.Proofs.YtahdaknaoogpkaaGreat
