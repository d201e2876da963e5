import Derived.Test.YthkgncddilkmbaaHCodeOk
import Derived.Test.YthkgncddilkmbaaHOpN
/- The text of code: plain. Printed by cotxt2.py. -/
namespace Go.Proofs.Ythkgncddilkmbaa
set_option linter.unusedVariables false
set_option linter.unusedSimpArgs false
theorem bs_dat (l : List UInt8) : (bs l).data.toList = l := rfl
theorem bA (a : List UInt8) (b : ByteArray) : bs a ++ b = bs (a ++ b.data.toList) := by
  apply ByteArray.ext
  apply Array.ext'
  simp [bs]
theorem strR_bs (l : List UInt8) : strR (bs l) = l.map u8R := rfl
def aB (op : Int) : Bool := leadsM op || op == 1 || op == 4 || op == 6 || op == 15 || op == 20
/-- a line. -/
def lineL (k : Nat) (x : MIns) : List UInt8 := numT k ++ (32 :: ((opN x.op).data.toList ++ ((if aB x.op then 32 :: numT x.a else []) ++ ((if x.op == 20 then 32 :: numT x.b else []) ++ ((if x.op == 2 then 32 :: quoL x.s.data.toList else if x.s.toList.isEmpty then [] else 32 :: x.s.data.toList) ++ [10])))))
def textU (xs : List MIns) : Nat → List UInt8
  | 0 => []
  | k + 1 => textU xs k ++ (match xs[k]? with | some x => lineL k x | none => [])
theorem textU_succ {xs : List MIns} {k : Nat} (h : k < xs.length) : textU xs (k + 1) = textU xs k ++ lineL k xs[k] := by rw [textU, List.getElem?_eq_getElem h]
theorem lineL_len (k : Nat) (x : MIns) (h : x.s.size ≤ 1048576) : (lineL k x).length ≤ 4200000 := by
  have h1 := numT_len (k : Int)
  have h2 := numT_len x.a
  have h3 := numT_len x.b
  have h4 : (opN x.op).data.toList.length ≤ 10 := opN_len x.op
  have h5 : x.s.data.toList.length ≤ 1048576 := h
  have h6 := quoL_len x.s.data.toList
  unfold lineL
  simp only [List.length_append, List.length_cons, List.length_nil]
  have a1 : (if aB x.op then 32 :: numT x.a else []).length ≤ 21 := by split <;> simp <;> omega
  have a2 : (if x.op == 20 then 32 :: numT x.b else []).length ≤ 21 := by split <;> simp <;> omega
  have a3 : (if x.op == 2 then 32 :: quoL x.s.data.toList else if x.s.toList.isEmpty then [] else 32 :: x.s.data.toList).length ≤ 4194400 := by
    split
    · simp; omega
    · split
      · simp
      · simp; omega
  omega
theorem textU_len {xs : List MIns} (h : ∀ x ∈ xs, x.s.size ≤ 1048576) : ∀ k, k ≤ xs.length → (textU xs k).length ≤ k * 4200000
  | 0, _ => by simp [textU]
  | k + 1, hk => by
    have ih := textU_len h k (by omega)
    have := lineL_len k xs[k] (h _ (List.getElem_mem (by omega)))
    rw [textU_succ (by omega), List.length_append, Nat.add_mul]; omega
def codeT (c : MCode) : List UInt8 := if codeM c = true then textU c.ins c.ins.length else []
theorem codeM_ins {c : MCode} (h : codeM c = true) : 1 ≤ c.ins.length ∧ c.ins.length ≤ 3000 ∧ ∀ x ∈ c.ins, insM c.ins.length c.pats.length x = true := by
  unfold codeM at h
  simp only [Bool.and_eq_true, decide_eq_true_eq, List.all_eq_true] at h
  exact ⟨h.1.1.1, h.1.1.2, h.2⟩
theorem insM_op {n m : Int} {x : MIns} (h : insM n m x = true) : 1 ≤ x.op ∧ x.op ≤ 25 := by
  unfold insM leadsM at h
  split at h
  · rename_i q; simp at q; omega
  split at h
  · omega
  split at h
  · omega
  split at h
  · omega
  split at h
  · omega
  split at h
  · omega
  split at h
  · omega
  split at h
  · omega
  · simp only [Bool.and_eq_true, decide_eq_true_eq] at h; omega
theorem nil_conM : conM ([] : List UInt8) = false := by decide
theorem insM_s {n m : Int} {x : MIns} (h : insM n m x = true) (h2 : x.op ≠ 2) : x.s.toList.isEmpty = !(x.op == 4 || x.op == 7 || x.op == 16) := by
  obtain ⟨op, a, b, s⟩ := x
  have hb := insM_op h
  dsimp only at hb h2 ⊢
  have hd : s.data.toList = s.toList := by rw [ByteArray.toList_eq]
  by_cases h4 : op = 4
  · subst h4
    unfold insM leadsM at h
    simp at h
    cases hs : s.toList with
    | nil =>
      have := h.2
      unfold shapeM at this
      rw [hd, hs, nil_conM] at this
      simp at this
    | cons _ _ => rfl
  · by_cases h7 : op = 7
    · subst h7
      unfold insM leadsM at h
      simp at h
      cases hs : s.toList with
      | nil =>
        have := h.2
        unfold givenM at this
        rw [hs] at this
        simp at this
      | cons _ _ => rfl
    · by_cases h16 : op = 16
      · subst h16
        unfold insM leadsM at h
        simp at h
        cases hs : s.toList with
        | nil =>
          have := h.2
          unfold primM primL at this
          rw [hs] at this
          simp at this
        | cons _ _ => rfl
      · have e4 : (op == 4) = false := by simpa using h4
        have e7 : (op == 7) = false := by simpa using h7
        have e16 : (op == 16) = false := by simpa using h16
        rw [e4, e7, e16]
        unfold insM at h
        split at h
        · simp only [Bool.and_eq_true] at h; exact h.2
        split at h
        · simp only [Bool.and_eq_true] at h; exact h.2
        split at h
        · simp only [Bool.and_eq_true] at h; exact h.2
        split at h
        · simp only [Bool.and_eq_true] at h; exact h.2
        try rw [if_neg h4, if_neg h2, if_neg h7, if_neg h16] at h
        simp only [Bool.and_eq_true] at h
        rw [h.2]; rfl
end Go.Proofs.Ythkgncddilkmbaa
