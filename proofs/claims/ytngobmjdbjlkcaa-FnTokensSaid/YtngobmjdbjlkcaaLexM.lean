import Derived.Test.YtngobmjdbjlkcaaBase
import Derived.Test.YtngobmjdbjlkcaaTxt
import Derived.Test.YtngobmjdbjlkcaaUnq
import Derived.Test.YtngobmjdbjlkcaaHTok
/- Lexing, plain words: no program in sight. -/
namespace Go.Proofs.Ytngobmjdbjlkcaa
set_option linter.unusedVariables false
set_option linter.unusedSimpArgs false
open Go.RowKit
/-- the byte at a place. -/
def bAt (s : ByteArray) (k : Nat) : Int := ((s.data.toList.getD k 0).toNat : Int)
theorem bAt_bd (s : ByteArray) (k : Nat) : 0 ≤ bAt s k ∧ bAt s k < 256 := by
  unfold bAt
  have := UInt8.toNat_lt (s.data.toList.getD k 0)
  omega
/-- a text stands at a place. -/
def hasM (s p : ByteArray) (i : Nat) : Bool := decide (i + p.size ≤ s.size) && ((s.extract i (i + p.size)).toList == p.toList)
theorem hasM_le {s p : ByteArray} {i : Nat} (h : hasM s p i = true) : i + p.size ≤ s.size := by
  unfold hasM at h; simp at h; omega
def lpB : ByteArray := ⟨#[40, 42]⟩
def rpB : ByteArray := ⟨#[42, 41]⟩
theorem lp_size : lpB.size = 2 := by kernel_rfl
theorem rp_size : rpB.size = 2 := by kernel_rfl
/-- behind a remark: how much is left to do, the place, how deep. -/
def remF (s : ByteArray) : Nat → Nat → Nat → Option Nat
  | 0, _, _ => none
  | f + 1, i, d => if s.size ≤ i then none else if hasM s lpB i = true then remF s f (i + 2) (d + 1) else if hasM s rpB i = true then (if d = 1 then some (i + 2) else remF s f (i + 2) (d - 1)) else remF s f (i + 1) d
def remM (s : ByteArray) (i : Nat) : Option Nat := remF s (s.size + 1) i 0
theorem remF_end {s : ByteArray} {f i d : Nat} (h : s.size ≤ i) : remF s f i d = none := by
  cases f with
  | zero => rfl
  | succ f => rw [remF, if_pos h]
theorem remF_open {s : ByteArray} {f i d : Nat} (h : i < s.size) (hl : hasM s lpB i = true) : remF s (f + 1) i d = remF s f (i + 2) (d + 1) := by
  rw [remF, if_neg (by omega), if_pos hl]
theorem remF_last {s : ByteArray} {f i : Nat} (h : i < s.size) (hl : hasM s lpB i = false) (hr : hasM s rpB i = true) : remF s (f + 1) i 1 = some (i + 2) := by
  rw [remF, if_neg (by omega), if_neg (by simp [hl]), if_pos hr, if_pos rfl]
theorem remF_close {s : ByteArray} {f i d : Nat} (h : i < s.size) (hl : hasM s lpB i = false) (hr : hasM s rpB i = true) (hd : d ≠ 1) : remF s (f + 1) i d = remF s f (i + 2) (d - 1) := by
  rw [remF, if_neg (by omega), if_neg (by simp [hl]), if_pos hr, if_neg hd]
theorem remF_pass {s : ByteArray} {f i d : Nat} (h : i < s.size) (hl : hasM s lpB i = false) (hr : hasM s rpB i = false) : remF s (f + 1) i d = remF s f (i + 1) d := by
  rw [remF, if_neg (by omega), if_neg (by simp [hl]), if_neg (by simp [hr])]
theorem remF_bd (s : ByteArray) : ∀ (f i d j : Nat), remF s f i d = some j → i + 2 ≤ j ∧ j ≤ s.size
  | 0, i, d, j, h => by cases h
  | f + 1, i, d, j, h => by
    rw [remF] at h
    split at h
    · cases h
    · split at h
      · have := remF_bd s f _ _ j h; omega
      · split at h
        · rename_i hr
          have := hasM_le hr
          rw [rp_size] at this
          split at h
          · injection h with h; omega
          · have := remF_bd s f _ _ j h; omega
        · have := remF_bd s f _ _ j h; omega
/-- the end of a word. -/
def wordF (s : ByteArray) : Nat → Nat → Nat
  | 0, k => k
  | f + 1, k => if k < s.size ∧ worI (bAt s k) = true then wordF s f (k + 1) else k
def wordE (s : ByteArray) (k : Nat) : Nat := wordF s s.size k
theorem wordF_end {s : ByteArray} {f k : Nat} (h : ¬ (k < s.size ∧ worI (bAt s k) = true)) : wordF s f k = k := by
  cases f with
  | zero => rfl
  | succ f => rw [wordF, if_neg h]
theorem wordF_step {s : ByteArray} {f k : Nat} (h : k < s.size) (hw : worI (bAt s k) = true) : wordF s (f + 1) k = wordF s f (k + 1) := by
  rw [wordF, if_pos ⟨h, hw⟩]
theorem wordF_bd (s : ByteArray) : ∀ (f k : Nat), k ≤ s.size → k ≤ wordF s f k ∧ wordF s f k ≤ s.size
  | 0, k, h => ⟨Nat.le_refl _, h⟩
  | f + 1, k, h => by
    rw [wordF]
    split
    · rename_i q; have := wordF_bd s f (k + 1) q.1; omega
    · exact ⟨Nat.le_refl _, h⟩
theorem wordE_bd {s : ByteArray} {k : Nat} (h : k ≤ s.size) : k ≤ wordE s k ∧ wordE s k ≤ s.size := wordF_bd s _ k h
theorem wordE_pos {s : ByteArray} {k : Nat} (h : k < s.size) (hw : worI (bAt s k) = true) : k < wordE s k := by
  unfold wordE
  obtain ⟨f, hf⟩ : ∃ f, s.size = f + 1 := ⟨s.size - 1, by omega⟩
  rw [hf, wordF_step h hw]
  have := (wordF_bd s f (k + 1) h).1; omega
/-- the place of the quote that ends a string. -/
def quoF (s : ByteArray) : Nat → Nat → Option Nat
  | 0, _ => none
  | f + 1, k => if k < s.size then (if bAt s k = 92 then quoF s f (k + 2) else if bAt s k = 34 then some k else quoF s f (k + 1)) else none
def quoE (s : ByteArray) (k : Nat) : Option Nat := quoF s s.size k
theorem quoF_end {s : ByteArray} {f k : Nat} (h : s.size ≤ k) : quoF s f k = none := by
  cases f with
  | zero => rfl
  | succ f => rw [quoF, if_neg (by omega)]
theorem quoF_esc {s : ByteArray} {f k : Nat} (h : k < s.size) (hb : bAt s k = 92) : quoF s (f + 1) k = quoF s f (k + 2) := by
  rw [quoF, if_pos h, if_pos hb]
theorem quoF_hit {s : ByteArray} {f k : Nat} (h : k < s.size) (hb : bAt s k = 34) : quoF s (f + 1) k = some k := by
  rw [quoF, if_pos h, if_neg (by omega), if_pos hb]
theorem quoF_pass {s : ByteArray} {f k : Nat} (h : k < s.size) (h1 : bAt s k ≠ 92) (h2 : bAt s k ≠ 34) : quoF s (f + 1) k = quoF s f (k + 1) := by
  rw [quoF, if_pos h, if_neg h1, if_neg h2]
theorem quoF_bd (s : ByteArray) : ∀ (f k j : Nat), quoF s f k = some j → k ≤ j ∧ j < s.size
  | 0, k, j, h => by cases h
  | f + 1, k, j, h => by
    rw [quoF] at h
    split at h
    · split at h
      · have := quoF_bd s f _ j h; omega
      · split at h
        · injection h with h; omega
        · have := quoF_bd s f _ j h; omega
    · cases h
/-- the signs, the longer ones first. -/
def sign2 : List ByteArray := [⟨#[45, 62]⟩, ⟨#[60, 62]⟩, ⟨#[60, 61]⟩, ⟨#[58, 61]⟩, ⟨#[58, 58]⟩]
def sign1 : List ByteArray := [⟨#[40]⟩, ⟨#[41]⟩, ⟨#[91]⟩, ⟨#[93]⟩, ⟨#[44]⟩, ⟨#[59]⟩, ⟨#[124]⟩, ⟨#[61]⟩, ⟨#[60]⟩, ⟨#[43]⟩, ⟨#[45]⟩, ⟨#[42]⟩, ⟨#[47]⟩, ⟨#[37]⟩, ⟨#[94]⟩, ⟨#[33]⟩, ⟨#[95]⟩]
def signs : List ByteArray := sign2 ++ sign1
def noB : ByteArray := ⟨#[]⟩
def signM (s : ByteArray) (i : Nat) : ByteArray := (signs.find? fun p => hasM s p i).getD noB
theorem signs_pos : ∀ p ∈ signs, 1 ≤ p.size := by decide +kernel
theorem signM_cases (s : ByteArray) (i : Nat) : (signM s i = noB) ∨ (1 ≤ (signM s i).size ∧ i + (signM s i).size ≤ s.size) := by
  unfold signM
  cases h : signs.find? fun p => hasM s p i with
  | none => exact .inl rfl
  | some p =>
    refine .inr ⟨signs_pos p (List.mem_of_find?_eq_some h), ?_⟩
    have := List.find?_some (p := fun p => hasM s p i) h
    exact hasM_le this
def blankI (n : Int) : Bool := n == 9 || n == 10 || n == 13 || n == 32
def zTok (i : Nat) : MTok := ⟨0, 0, noB, i⟩
/-- the token at a place: it, its length, what is wrong. -/
noncomputable def tokM (s : ByteArray) (i : Nat) : MTok × Nat × Int :=
  if digI (bAt s i) = true then
    match txtO (s.extract i (wordE s i)).data.toList with
    | none => (zTok i, 0, 3)
    | some n => (⟨1, n, noB, i⟩, wordE s i - i, 0)
  else if (lowI (bAt s i) || uppI (bAt s i)) = true then
    if nameM (s.extract i (wordE s i)) = true then (⟨3, 0, s.extract i (wordE s i), i⟩, wordE s i - i, 0)
    else if conM (s.extract i (wordE s i)).data.toList = true then (⟨4, 0, s.extract i (wordE s i), i⟩, wordE s i - i, 0)
    else if inL (s.extract i (wordE s i)) kwList = true then (⟨6, 0, s.extract i (wordE s i), i⟩, wordE s i - i, 0)
    else (⟨0, 0, s.extract i (wordE s i), i⟩, 0, 5)
  else if bAt s i = 39 ∧ i + 1 < s.size ∧ lowI (bAt s (i + 1)) = true then (⟨5, bAt s (i + 1) - 97, noB, i⟩, 2, 0)
  else if bAt s i = 34 then
    match quoE s (i + 1) with
    | none => (zTok i, 0, 4)
    | some k => match unqO (s.extract i (k + 1)).data.toList with
      | none => (zTok i, 0, 4)
      | some t => (⟨2, 0, bs t, i⟩, k + 1 - i, 0)
  else if signM s i = noB then (zTok i, 0, 2)
  else (⟨6, 0, signM s i, i⟩, (signM s i).size, 0)
theorem dig_wor {n : Int} (h : digI n = true) : worI n = true := by unfold worI; simp [h]
theorem let_wor {n : Int} (h : (lowI n || uppI n) = true) : worI n = true := by unfold worI; simp [h]
theorem tokM_bd {s : ByteArray} {i : Nat} (h : i < s.size) (h0 : (tokM s i).2.2 = 0) : 1 ≤ (tokM s i).2.1 ∧ i + (tokM s i).2.1 ≤ s.size ∧ (tokM s i).1.at_ = i := by
  have hw := wordE_bd (s := s) (k := i) (by omega)
  unfold tokM at h0 ⊢
  split
  · rename_i hd
    have hp := wordE_pos h (dig_wor hd)
    rw [if_pos hd] at h0
    split
    · rename_i q; rw [q] at h0; cases h0
    · exact ⟨by simp only; omega, by simp only; omega, rfl⟩
  · rename_i hd
    rw [if_neg hd] at h0
    split
    · rename_i hl
      have hp := wordE_pos h (let_wor hl)
      rw [if_pos hl] at h0
      split
      · exact ⟨by simp only; omega, by simp only; omega, rfl⟩
      · rename_i q1
        rw [if_neg q1] at h0
        split
        · exact ⟨by simp only; omega, by simp only; omega, rfl⟩
        · rename_i q2
          rw [if_neg q2] at h0
          split
          · exact ⟨by simp only; omega, by simp only; omega, rfl⟩
          · rename_i q3
            rw [if_neg q3] at h0; cases h0
    · rename_i hl
      rw [if_neg hl] at h0
      split
      · rename_i q; exact ⟨by simp only; omega, by simp only; omega, rfl⟩
      · rename_i q
        rw [if_neg q] at h0
        split
        · rename_i q2
          rw [if_pos q2] at h0
          split
          · rename_i q3; rw [q3] at h0; cases h0
          · rename_i k q3
            rw [q3] at h0
            have := quoF_bd s _ _ k q3
            simp only at h0 ⊢
            split
            · rename_i q4; rw [q4] at h0; cases h0
            · exact ⟨by simp only; omega, by simp only; omega, rfl⟩
        · rename_i q2
          rw [if_neg q2] at h0
          split
          · rename_i q3; rw [if_pos q3] at h0; cases h0
          · rename_i q3
            rcases signM_cases s i with q4 | q4
            · exact absurd q4 q3
            · exact ⟨q4.1, q4.2, rfl⟩
/-- all tokens from a place on, behind those that were read. -/
noncomputable def lexF (s : ByteArray) : Nat → Nat → List MTok → List MTok × Int × Int
  | 0, _, acc => (acc, 0, 0)
  | f + 1, i, acc => if s.size ≤ i then (acc, 0, 0)
    else if blankI (bAt s i) = true then lexF s f (i + 1) acc
    else if hasM s lpB i = true then (match remM s i with | none => ([], 6, (i : Int)) | some j => lexF s f j acc)
    else if (tokM s i).2.2 = 0 then lexF s f (i + (tokM s i).2.1) (acc ++ [(tokM s i).1])
    else ([], (tokM s i).2.2, (i : Int))
noncomputable def lexM (s : ByteArray) : List MTok × Int × Int := if s.size ≤ 4000 then lexF s s.size 0 [] else ([], 1, 0)
theorem lexF_end {s : ByteArray} {f i : Nat} {acc : List MTok} (h : s.size ≤ i) : lexF s f i acc = (acc, 0, 0) := by
  cases f with
  | zero => rfl
  | succ f => rw [lexF, if_pos h]
theorem lexF_blank {s : ByteArray} {f i : Nat} {acc : List MTok} (h : i < s.size) (hb : blankI (bAt s i) = true) : lexF s (f + 1) i acc = lexF s f (i + 1) acc := by
  rw [lexF, if_neg (by omega), if_pos hb]
theorem lexF_rem {s : ByteArray} {f i j : Nat} {acc : List MTok} (h : i < s.size) (hb : blankI (bAt s i) = false) (hl : hasM s lpB i = true) (hr : remM s i = some j) : lexF s (f + 1) i acc = lexF s f j acc := by
  rw [lexF, if_neg (by omega), if_neg (by simp [hb]), if_pos hl, hr]
theorem lexF_norem {s : ByteArray} {f i : Nat} {acc : List MTok} (h : i < s.size) (hb : blankI (bAt s i) = false) (hl : hasM s lpB i = true) (hr : remM s i = none) : lexF s (f + 1) i acc = (([] : List MTok), (6 : Int), (i : Int)) := by
  rw [lexF, if_neg (by omega), if_neg (by simp [hb]), if_pos hl, hr]
theorem lexF_tok {s : ByteArray} {f i : Nat} {acc : List MTok} (h : i < s.size) (hb : blankI (bAt s i) = false) (hl : hasM s lpB i = false) (hc : (tokM s i).2.2 = 0) : lexF s (f + 1) i acc = lexF s f (i + (tokM s i).2.1) (acc ++ [(tokM s i).1]) := by
  rw [lexF, if_neg (by omega), if_neg (by simp [hb]), if_neg (by simp [hl]), if_pos hc]
theorem lexF_bad {s : ByteArray} {f i : Nat} {acc : List MTok} (h : i < s.size) (hb : blankI (bAt s i) = false) (hl : hasM s lpB i = false) (hc : (tokM s i).2.2 ≠ 0) : lexF s (f + 1) i acc = (([] : List MTok), (tokM s i).2.2, (i : Int)) := by
  rw [lexF, if_neg (by omega), if_neg (by simp [hb]), if_neg (by simp [hl]), if_neg hc]
theorem remM_bd {s : ByteArray} {i j : Nat} (h : remM s i = some j) : i + 2 ≤ j ∧ j ≤ s.size := remF_bd s _ _ _ _ h
end Go.Proofs.Ytngobmjdbjlkcaa
