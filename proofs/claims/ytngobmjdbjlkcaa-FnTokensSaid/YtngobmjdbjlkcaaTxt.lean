import Derived.Test.YtngobmjdbjlkcaaDecB
/- Reading numbers: no program in sight. -/
namespace Go.Proofs.Ytngobmjdbjlkcaa
set_option linter.unusedVariables false

/-- the value of digits. -/
def valL (l : List UInt8) : Int := l.foldl (fun a d => 10 * a + ((d.toNat : Int) - 48)) 0
theorem valL_snoc (l : List UInt8) (d : UInt8) : valL (l ++ [d]) = 10 * valL l + ((d.toNat : Int) - 48) := by
  simp [valL, List.foldl_append]
theorem valL_nil : valL [] = 0 := rfl
def allDig (l : List UInt8) : Prop := ∀ d ∈ l, 48 ≤ d.toNat ∧ d.toNat ≤ 57
theorem decL_dig : ∀ (n : Nat), allDig (decL n) := by
  intro n
  induction n using Nat.strongRecOn with
  | _ n ih =>
    by_cases h : n < 10
    · rw [decL_small h]
      intro d hd
      simp at hd
      subst hd
      rw [dgt_nat h]; omega
    · rw [decL_big h]
      intro d hd
      rcases List.mem_append.1 hd with hd | hd
      · exact ih (n / 10) (by omega) d hd
      · simp at hd
        subst hd
        rw [dgt_nat (by omega)]; omega
theorem valL_decL : ∀ (n : Nat), valL (decL n) = n := by
  intro n
  induction n using Nat.strongRecOn with
  | _ n ih =>
    by_cases h : n < 10
    · rw [decL_small h]
      simp [valL, dgt_nat h]; omega
    · rw [decL_big h, valL_snoc, ih (n / 10) (by omega), dgt_nat (by omega)]
      omega
theorem valL_nonneg {l : List UInt8} (h : allDig l) : 0 ≤ valL l := by
  have key : ∀ (l : List UInt8) (a : Int), 0 ≤ a → allDig l → 0 ≤ l.foldl (fun a d => 10 * a + ((d.toNat : Int) - 48)) a := by
    intro l
    induction l with
    | nil => intro a ha _; exact ha
    | cons d l ih =>
      intro a ha h
      have h2 := h d (by simp)
      exact ih _ (by show 0 ≤ 10 * a + ((d.toNat : Int) - 48); omega) (fun x hx => h x (List.mem_cons_of_mem _ hx))
  exact key l 0 (by omega) h
theorem valL_take_le {l : List UInt8} (h : allDig l) (k : Nat) (hk : k < l.length) : 10 * valL (l.take k) ≤ valL (l.take (k + 1)) := by
  rw [List.take_succ_eq_append_getElem hk, valL_snoc]
  have := h _ (List.getElem_mem hk)
  omega
theorem allDig_take {l : List UInt8} (h : allDig l) (k : Nat) : allDig (l.take k) := fun d hd => h d (List.mem_of_mem_take hd)
theorem valL_take_mono {l : List UInt8} (h : allDig l) (k : Nat) : ∀ j, k ≤ j → valL (l.take k) ≤ valL (l.take j) := by
  intro j hj
  induction j with
  | zero => have : k = 0 := by omega
            subst this; exact Int.le_refl _
  | succ j ih =>
    by_cases e : k = j + 1
    · subst e; exact Int.le_refl _
    · have h1 := ih (by omega)
      by_cases hl : j < l.length
      · have h2 := valL_take_le h j hl
        have h3 := valL_nonneg (allDig_take h j)
        omega
      · rw [List.take_of_length_le (by omega : l.length ≤ j + 1)]
        rw [List.take_of_length_le (by omega : l.length ≤ j)] at h1
        exact h1

/-- where the digits begin. -/
def offL (l : List UInt8) : Nat := match l with | 45 :: _ => 1 | _ => 0
/-- the value of the digits among the first k bytes. -/
def valTo (l : List UInt8) (k : Nat) : Int := valL ((l.take k).drop (offL l))
theorem valTo_start (l : List UInt8) (k : Nat) (h : k ≤ offL l) : valTo l k = 0 := by
  unfold valTo
  rw [List.drop_eq_nil_of_le (by simp; omega)]; rfl
theorem valTo_succ (l : List UInt8) (k : Nat) (h : offL l ≤ k) (hk : k < l.length) : valTo l (k + 1) = 10 * valTo l k + ((l[k].toNat : Int) - 48) := by
  unfold valTo
  rw [List.take_succ_eq_append_getElem hk, List.drop_append_of_le_length (by simp; omega), valL_snoc]
/-- the number whose text is l. -/
noncomputable def txtO (l : List UInt8) : Option Int := open Classical in if h : l ≠ [] ∧ ∃ n, numT n = l then some h.2.choose else none

theorem offL_of {l : List UInt8} (h0 : l[0]? = some 45) : offL l = 1 := by
  cases l with
  | nil => simp at h0
  | cons b l => simp at h0; subst h0; rfl
theorem offL_not {l : List UInt8} (h0 : l[0]? ≠ some 45) : offL l = 0 := by
  cases l with
  | nil => rfl
  | cons b l =>
    unfold offL
    split
    · rename_i e; injection e with e _; subst e; simp at h0
    · rfl
theorem numT_shape {n : Int} {l : List UInt8} (h : numT n = l) (hl : l ≠ []) : ∃ m : Nat, (m : Int) ≤ 4611686018427387904 ∧ l.drop (offL l) = decL m ∧ (offL l = 1 → n = -(m : Int)) ∧ (offL l = 0 → n = (m : Int)) ∧ l.length ≤ 20 := by
  have hlen := numT_len n
  rw [h] at hlen
  unfold numT at h
  split at h
  · rename_i hr
    split at h
    · rename_i hn
      have e : offL l = 1 := by rw [← h]; rfl
      refine ⟨n.natAbs, by omega, by rw [e, ← h]; rfl, fun _ => by omega, fun e' => by omega, hlen⟩
    · rename_i hn
      have e : offL l = 0 := by
        apply offL_not
        intro h0
        have hd := decL_dig n.natAbs
        rw [h] at hd
        have := hd 45 (List.mem_of_getElem? h0)
        simp at this
      exact ⟨n.natAbs, by omega, by rw [e, ← h]; rfl, fun e' => by omega, fun _ => by omega, hlen⟩
  · exact absurd h.symm hl
/-- a reader that has come to a byte that is no digit, or holds too great a number, is right to give up. -/
theorem txtO_bad {l : List UInt8} {k : Nat} (hk : k < l.length) (ho : offL l ≤ k) (hb : ¬ (48 ≤ l[k].toNat ∧ l[k].toNat ≤ 57) ∨ 500000000000000000 < valTo l k) : txtO l = none := by
  unfold txtO
  rw [dif_neg]
  rintro ⟨hl, n, hn⟩
  obtain ⟨m, hm, hd, _, _, _⟩ := numT_shape hn hl
  have hdig := decL_dig m
  have hidx : l[k] ∈ decL m := by
    rw [← hd]
    have : (l.drop (offL l))[k - offL l]? = some l[k] := by
      rw [List.getElem?_drop, show offL l + (k - offL l) = k by omega, List.getElem?_eq_getElem hk]
    exact List.mem_of_getElem? this
  rcases hb with hb | hb
  · exact hb (hdig _ hidx)
  · have hv : valTo l k = valL ((decL m).take (k - offL l)) := by
      unfold valTo
      rw [List.drop_take, hd]
    have hlen : k - offL l < (decL m).length := by rw [← hd, List.length_drop]; omega
    have h1 := valL_take_le hdig (k - offL l) hlen
    have h2 := valL_take_mono hdig (k - offL l + 1) (decL m).length (by omega)
    rw [List.take_length, valL_decL] at h2
    rw [hv] at hb
    omega
theorem txtO_len {l : List UInt8} (h : l.length < 1 ∨ 20 < l.length) : txtO l = none := by
  unfold txtO
  rw [dif_neg]
  rintro ⟨hl, n, hn⟩
  have := numT_len n
  rw [hn] at this
  rcases h with h | h
  · exact hl (List.length_eq_zero_iff.1 (by omega))
  · omega
theorem txt_val {l : List UInt8} {n : Int} (hn : numT n = l) (hl : l ≠ []) (z : Int) (hz : z = if offL l = 1 then - valTo l l.length else valTo l l.length) : n = z := by
  obtain ⟨m, hm, hd, h1, h0, _⟩ := numT_shape hn hl
  have hv : valTo l l.length = m := by unfold valTo; rw [List.take_length, hd, valL_decL]
  have ho : offL l = 0 ∨ offL l = 1 := by unfold offL; split <;> simp
  rcases ho with ho | ho
  · rw [hz, if_neg (by omega), hv]; exact h0 ho
  · rw [hz, if_pos ho, hv]; exact h1 ho
theorem txtO_yes {l : List UInt8} (hl : l ≠ []) (z : Int) (hz : z = if offL l = 1 then - valTo l l.length else valTo l l.length) (h : numT z = l) : txtO l = some z := by
  unfold txtO
  have hx : l ≠ [] ∧ ∃ n, numT n = l := ⟨hl, z, h⟩
  rw [dif_pos hx]
  rw [txt_val hx.2.choose_spec hl z hz]
theorem txtO_no {l : List UInt8} (hl : l ≠ []) (z : Int) (hz : z = if offL l = 1 then - valTo l l.length else valTo l l.length) (h : numT z ≠ l) : txtO l = none := by
  unfold txtO
  rw [dif_neg]
  rintro ⟨_, n, hn⟩
  exact h (txt_val hn hl z hz ▸ hn)
theorem txtO_num {n : Int} (h0 : -4611686018427387904 ≤ n) (h1 : n ≤ 4611686018427387903) : txtO (numT n) = some n := by
  have hl : numT n ≠ [] := by
    unfold numT
    rw [if_pos ⟨h0, h1⟩]
    split
    · simp
    · intro e; have := decL_pos n.natAbs; rw [e] at this; simp at this
  have h := txt_val (n := n) rfl hl _ rfl
  rw [txtO_yes hl _ rfl (by rw [← h]), ← h]
theorem txtO_nil : txtO [] = none := txtO_len (by simp)
end Go.Proofs.Ytngobmjdbjlkcaa
