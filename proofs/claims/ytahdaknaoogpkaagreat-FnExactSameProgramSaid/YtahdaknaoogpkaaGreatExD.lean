import Derived.Test.YtahdaknaoogpkaaGreatExT
import Derived.Test.YtahdaknaoogpkaaGreatTyInj
import Derived.Test.YtahdaknaoogpkaaGreatUnq
/- The text of a right tree determines it: plain. -/
namespace Go.Proofs.YtahdaknaoogpkaaGreat
set_option linter.unusedVariables false
set_option linter.unusedSimpArgs false
open Arb
/-! ### words and fixed texts -/
def wd (s : List UInt8) : List UInt8 := s.takeWhile worB
def af (s : List UInt8) : List UInt8 := s.dropWhile worB
def strip : List UInt8 → List UInt8 → Option (List UInt8)
  | [], s => some s
  | a :: l, b :: s => if a = b then strip l s else none
  | _ :: _, [] => none
theorem strip_app (l r : List UInt8) : strip l (l ++ r) = some r := by
  induction l with
  | nil => rfl
  | cons a l ih => show (if a = a then strip l (l ++ r) else none) = _; rw [if_pos rfl, ih]
theorem wd_app {w r : List UInt8} (h : allWor w = true) (hr : stopB r) : wd (w ++ r) = w := by
  unfold wd allWor at *
  induction w with
  | nil =>
    cases r with
    | nil => rfl
    | cons b r => simp [List.takeWhile_cons, hr b rfl]
  | cons a w ih =>
    simp only [List.all_cons, Bool.and_eq_true] at h
    rw [List.cons_append, List.takeWhile_cons, h.1, if_pos rfl, ih h.2]
theorem af_app {w r : List UInt8} (h : allWor w = true) (hr : stopB r) : af (w ++ r) = r := by
  have h1 := List.takeWhile_append_dropWhile (p := worB) (l := w ++ r)
  have h2 := wd_app h hr
  unfold wd at h2
  rw [h2] at h1
  exact List.append_cancel_left h1
theorem stop_nil : stopB [] := fun b h => by cases h
/-! ### texts in quotes -/
theorem hexB_in2 : ∀ m n : Fin 16, hexB m = hexB n → m = n := by decide
theorem hexB_in {m n : Nat} (hm : m < 16) (hn : n < 16) (h : hexB m = hexB n) : m = n := congrArg Fin.val (hexB_in2 ⟨m, hm⟩ ⟨n, hn⟩ h)
theorem quoB_hd (a b : UInt8) (x y : List UInt8) (h : quoB a ++ x = quoB b ++ y) : a = b := by
  rcases quoB_cases a with ⟨e, h1⟩ | ⟨e, h1⟩ | ⟨e, h1⟩ | e <;> rcases quoB_cases b with ⟨f, h2⟩ | ⟨f, h2⟩ | ⟨f, h2⟩ | f <;> rw [e, f] at h <;> simp only [List.cons_append, List.nil_append, List.cons.injEq, true_and] at h
  · rw [h1, h2]
  · rcases h2 with rfl | rfl <;> simp at h
  · exact absurd h.1.symm h2
  · exact absurd h.1 (by decide)
  · rcases h1 with rfl | rfl <;> simp at h
  · exact h.1
  · exact absurd h.1.symm h2
  · rcases h1 with rfl | rfl <;> simp at h
  · exact absurd h.1 h1
  · exact absurd h.1 h1
  · exact h.1
  · exact absurd h.1 h1
  · exact absurd h.1 (by decide)
  · rcases h2 with rfl | rfl <;> simp at h
  · exact absurd h.1.symm h2
  · obtain ⟨h3, h4, _⟩ := h
    have ha := a.toNat_lt
    have hb := b.toNat_lt
    have e1 := hexB_in (by omega) (by omega) h3
    have e2 := hexB_in (by omega) (by omega) h4
    exact UInt8.toNat_inj.mp (by omega)
theorem quoB_ne (b : UInt8) : ∃ c u, quoB b = c :: u ∧ c ≠ 34 := by
  unfold quoB
  split
  · exact ⟨_, _, rfl, by decide⟩
  · split
    · exact ⟨_, _, rfl, by decide⟩
    · split
      · exact ⟨_, _, rfl, fun e => by subst e; rename_i h _; exact h (by decide)⟩
      · exact ⟨_, _, rfl, by decide⟩
theorem quo_pre : ∀ (t l r r' : List UInt8), t.flatMap quoB ++ 34 :: r = l.flatMap quoB ++ 34 :: r' → t = l ∧ r = r'
  | [], [], r, r', h => by simpa using h
  | [], b :: l, r, r', h => by
    exfalso
    obtain ⟨c, u, e, hc⟩ := quoB_ne b
    rw [List.flatMap_nil, List.nil_append, List.flatMap_cons, e] at h
    simp only [List.cons_append, List.cons.injEq] at h
    exact hc h.1.symm
  | a :: t, [], r, r', h => by
    exfalso
    obtain ⟨c, u, e, hc⟩ := quoB_ne a
    rw [List.flatMap_nil, List.nil_append, List.flatMap_cons, e] at h
    simp only [List.cons_append, List.cons.injEq] at h
    exact hc h.1
  | a :: t, b :: l, r, r', h => by
    simp only [List.flatMap_cons, List.append_assoc] at h
    obtain rfl := quoB_hd a b _ _ h
    obtain ⟨e1, e2⟩ := quo_pre t l r r' (List.append_cancel_left h)
    exact ⟨by rw [e1], e2⟩
theorem quoL_pre {t l r r' : List UInt8} (h : quoL t ++ r = quoL l ++ r') : t = l ∧ r = r' := by
  unfold quoL at h
  simp only [List.cons_append, List.append_assoc, List.nil_append, List.cons.injEq, true_and] at h
  exact quo_pre t l r r' h
/-! ### patterns -/
theorem toL_app (a b : ByteArray) : (a ++ b).data.toList = a.data.toList ++ b.data.toList := by
  rw [ByteArray.data_append, Array.toList_append]
theorem toL_bs (l : List UInt8) : (bs l).data.toList = l := rfl
theorem s_of {s : ByteArray} {l : List UInt8} (h : s.toList = l) : s = bs l := by
  rw [ByteArray.toList_eq] at h; rw [← h, bs_of]
theorem dgt_dig {d : Nat} (h : d < 10) : digB (dgt d) = true := by
  unfold digB digI; rw [dgt_nat h]; simp; omega
theorem decL_head (n : Nat) : ∃ c t, decL n = c :: t ∧ digB c = true := by
  induction n using Nat.strongRecOn with
  | _ n ih =>
    by_cases h : n < 10
    · exact ⟨_, _, decL_small h, dgt_dig h⟩
    · obtain ⟨c, t, e, hc⟩ := ih (n / 10) (by omega)
      exact ⟨c, t ++ [dgt (n % 10)], by rw [decL_big h, e]; rfl, hc⟩
def hdB (c : UInt8) : Bool := lowB c || uppB c || digB c || c == 95 || c == 40 || c == 91 || c == 34 || c == 45
theorem conM_parts {s : ByteArray} (h : conM s.data.toList = true) : allWor s.data.toList = true ∧ ∃ c t, s.data.toList = c :: t ∧ uppB c = true := by
  unfold conM wordM at h
  simp only [Bool.and_eq_true, decide_eq_true_eq] at h
  refine ⟨h.1.1.1, ?_⟩
  cases hl : s.data.toList with
  | nil => rw [hl] at h; exact absurd h.2 (by simp [headIs])
  | cons c t => rw [hl] at h; exact ⟨c, t, rfl, h.2⟩
theorem not_kw {s : ByteArray} (h : nameM s = true) : ∀ l ∈ kwList, s ≠ l := fun l hl e => by
  unfold nameM at h
  simp only [Bool.and_eq_true, Bool.not_eq_true'] at h
  have : inL s kwList = true := (inL_iff _ _).2 (e ▸ hl)
  rw [this] at h; exact absurd h.2 (by simp)
theorem upp_not {c : UInt8} (h : uppB c = true) : lowB c = false ∧ digB c = false ∧ c ≠ 91 ∧ c ≠ 45 ∧ c ≠ 40 ∧ c ≠ 95 ∧ c ≠ 34 ∧ c ≠ 58 ∧ c ≠ 41 ∧ c ≠ 33 := by
  unfold uppB uppI at h; unfold lowB lowI digB digI
  simp only [Bool.and_eq_true, decide_eq_true_eq] at h
  refine ⟨by simp; omega, by simp; omega, ?_, ?_, ?_, ?_, ?_, ?_, ?_, ?_⟩ <;> (rintro rfl; revert h; decide)
theorem low_not {c : UInt8} (h : lowB c = true) : uppB c = false ∧ digB c = false ∧ c ≠ 91 ∧ c ≠ 45 ∧ c ≠ 40 ∧ c ≠ 95 ∧ c ≠ 34 ∧ c ≠ 58 ∧ c ≠ 41 ∧ c ≠ 33 := by
  unfold lowB lowI at h; unfold uppB uppI digB digI
  simp only [Bool.and_eq_true, decide_eq_true_eq] at h
  refine ⟨by simp; omega, by simp; omega, ?_, ?_, ?_, ?_, ?_, ?_, ?_, ?_⟩ <;> (rintro rfl; revert h; decide)
theorem dig_not {c : UInt8} (h : digB c = true) : uppB c = false ∧ lowB c = false ∧ c ≠ 91 ∧ c ≠ 45 ∧ c ≠ 40 ∧ c ≠ 95 ∧ c ≠ 34 ∧ c ≠ 58 ∧ c ≠ 41 ∧ c ≠ 33 := by
  unfold digB digI at h; unfold uppB uppI lowB lowI
  simp only [Bool.and_eq_true, decide_eq_true_eq] at h
  refine ⟨by simp; omega, by simp; omega, ?_, ?_, ?_, ?_, ?_, ?_, ?_, ?_⟩ <;> (rintro rfl; revert h; decide)
def wk (w : List UInt8) : Nat := if headIs digB w then 0 else if nameM (bs w) then 1 else 2
theorem wk_num (n : Nat) : wk (decL n) = 0 := by
  obtain ⟨c, t, e, hc⟩ := decL_head n
  unfold wk; rw [e]; exact if_pos hc
theorem wk_name {s : ByteArray} (h : nameM s = true) : wk s.data.toList = 1 := by
  obtain ⟨-, c, t, e, hc⟩ := lowName_of h
  unfold wk
  rw [if_neg (by rw [e]; show ¬ digB c = true; rw [(low_not hc).2.1]; simp), bs_of, if_pos h]
theorem wk_con {s : ByteArray} (h : shapeM s 0 false = true) (h2 : s.data.toList ≠ [91, 93]) : wk s.data.toList = 2 ∧ allWor s.data.toList = true := by
  unfold shapeM at h
  rw [ByteArray.toList_eq] at h
  by_cases h1 : s.data.toList = [116, 114, 117, 101]
  · rw [h1]; exact ⟨by decide, by decide⟩
  · by_cases h3 : s.data.toList = [102, 97, 108, 115, 101]
    · rw [h3]; exact ⟨by decide, by decide⟩
    · rw [if_neg (by simp [h1, h2, h3])] at h
      split at h
      · simp at h
      · simp only [Bool.and_eq_true] at h
        obtain ⟨q, c, t, e, hc⟩ := conM_parts h.1
        refine ⟨?_, q⟩
        unfold wk
        rw [if_neg (by rw [e]; show ¬ digB c = true; rw [(upp_not hc).2.1]; simp), if_neg]
        intro hn
        obtain ⟨-, c2, t2, e2, hc2⟩ := lowName_of hn
        rw [toL_bs, e] at e2
        obtain ⟨rfl, -⟩ := List.cons.inj e2
        rw [(upp_not hc).1] at hc2; cases hc2
theorem wk_conM {s : ByteArray} (h : conM s.data.toList = true) : shapeM s 0 false = true ∧ s.data.toList ≠ [91, 93] := by
  obtain ⟨q, c, t, e, hc⟩ := conM_parts h
  have k : s.data.toList ≠ [91, 93] ∧ s.data.toList ≠ [58, 58] ∧ s.data.toList ≠ [116, 114, 117, 101] ∧ s.data.toList ≠ [102, 97, 108, 115, 101] := by
    refine ⟨?_, ?_, ?_, ?_⟩ <;> (intro e2; rw [e] at e2; obtain ⟨rfl, -⟩ := List.cons.inj e2; revert hc; decide)
  refine ⟨?_, k.1⟩
  unfold shapeM
  rw [ByteArray.toList_eq, if_neg (by simp [k.1, k.2.2.1, k.2.2.2]), if_neg (by simp [k.2.1]), h]
  rfl
end Go.Proofs.YtahdaknaoogpkaaGreat
