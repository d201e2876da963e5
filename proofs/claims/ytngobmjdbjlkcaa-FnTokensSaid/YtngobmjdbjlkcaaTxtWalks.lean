import Derived.Test.YtngobmjdbjlkcaaTxt
import Derived.Test.YtngobmjdbjlkcaaDecB
/- TextNum of both texts. -/
namespace Go.Proofs.Ytngobmjdbjlkcaa
set_option linter.unusedVariables false
open Go.RowKit

theorem at_some' {s : ByteArray} {k : Nat} (h : k < s.size) : s.data.toList[k]? = some s[k] := List.getElem?_eq_getElem h
theorem at_get {s : ByteArray} {k : Nat} (h : k < s.size) : s.data.toList[k]'h = s[k] := rfl
theorem ne_of_size {s : ByteArray} (h : 1 ≤ s.size) : s.data.toList ≠ [] := by
  intro e
  have := congrArg List.length e
  rw [blen] at this
  simp only [List.length_nil] at this; omega
noncomputable def txtV (s : ByteArray) : Value := .tuple #[.int .i64 ((txtO s.data.toList).getD 0), .bool (txtO s.data.toList).isSome]
theorem txtV_some {s : ByteArray} {n : Int} (h : txtO s.data.toList = some n) : txtV s = .tuple #[.int .i64 n, .bool true] := by unfold txtV; rw [h]; rfl
theorem txtV_none {s : ByteArray} (h : txtO s.data.toList = none) : txtV s = .tuple #[.int .i64 0, .bool false] := by unfold txtV; rw [h]; rfl
theorem numS_eq {s : ByteArray} {n : Int} : bs (numT n) = s ↔ numT n = s.data.toList := by
  constructor
  · intro h; rw [← h]; rfl
  · intro h; rw [h]; exact bs_of s
theorem eq45 {b : UInt8} : ((b.toNat : Int) == 45) = decide (b = 45) := by
  rw [Bool.eq_iff_iff]
  simp only [beq_iff_eq, decide_eq_true_eq]
  exact ⟨fun h => UInt8.toNat.inj (by have : b.toNat = 45 := by omega
                                      rw [this]; rfl), fun h => by rw [h]; rfl⟩
theorem offL_s {s : ByteArray} (h : 0 < s.size) : offL s.data.toList = if s[0] = 45 then 1 else 0 := by
  by_cases e : s[0] = 45
  · rw [if_pos e]; exact offL_of (by rw [at_some' h, e])
  · rw [if_neg e]; exact offL_not (by rw [at_some' h]; exact fun q => e (Option.some.inj q))
/-- the bound under which no product overflows. -/
def small (n : Int) : Prop := 0 ≤ n ∧ n ≤ 5000000000000000009
theorem valTo_step {s : ByteArray} {k : Nat} (ho : offL s.data.toList ≤ k) (hk : k < s.size) : valTo s.data.toList (k + 1) = 10 * valTo s.data.toList k + ((s[k].toNat : Int) - 48) := valTo_succ _ _ ho hk

set_option maxHeartbeats 1000000 in
theorem impl_TextNum (w : World) (s : ByteArray) (hs : s.size ≤ maxLen) : Calls Try.prog 122 #[.string s] w fun e w' => e = .returned (txtV s) ∧ Below w.heap.size w w' := by
  unfold maxLen at hs
  by_cases hl : 1 ≤ s.size ∧ s.size ≤ 20
  · obtain ⟨hl1, hl2⟩ := hl
    have h0 : 0 < s.size := hl1
    have ht0 : ((s.size : Int) == 0) = false := beq_eq_false_iff_ne.2 (by omega)
    have HO := Lib.hid (offL_s h0)
    cases hm : ((s[0].toNat : Int) == 45)
    · have hm' := hm
      rw [eq45] at hm'
      have HF : Hid (offL s.data.toList = if ((s[0].toNat : Int) == 45) then 1 else 0) := by
        unfold Hid; rw [HO.out, hm]; simp at hm'; simp [hm']
      rw [hm] at HF
      clear hm'
      go_enter Try.func122, Try.ntmps122
      go_wp2
      go_loop [5, 6] (fun nv i => ∃ (k : Nat) (n : Int), i = .int .i64 k ∧ nv = .int .i64 n ∧ k ≤ s.size ∧ offL s.data.toList ≤ k ∧ 0 ≤ n ∧ n ≤ 5000000000000000009 ∧ n = valTo s.data.toList k) (fun _ i => s.size - (intOf i).toNat)
      case atStart => exact ⟨0, 0, rfl, rfl, by omega, by rw [HF.out]; decide, by omega, by omega, by rw [valTo_start]; rw [HF.out]; decide⟩
      case round =>
        obtain ⟨k, n, rfl, rfl, hk, ho, hn0, hn1, hnv⟩ := hrel
        have HN := Lib.hid hnv
        clear hnv
        by_cases hlt : k < s.size
        · have u := s[k].toNat_lt
          cases hd : digI (s[k].toNat : Int)
          · have HR := Lib.hid (txtV_none (s := s) (txtO_bad (l := s.data.toList) (k := k) hlt ho (.inl (by rw [at_get hlt]; unfold digI at hd; simp at hd; omega))))
            clear ho
            go_wp2_with (first | (go_at_call 120; refine (impl_isDigit _ _).mono ?_; rintro e w' ⟨rfl, rfl⟩))
            go_ret2
            exact ⟨congrArg Ending.returned HR.out.symm, Below.refl _ _⟩
          · have hd1 : 48 ≤ (s[k].toNat : Int) := by unfold digI at hd; simp at hd; omega
            have hd2 : (s[k].toNat : Int) ≤ 57 := by unfold digI at hd; simp at hd; omega
            by_cases hbig : 500000000000000000 < n
            · have HR := Lib.hid (txtV_none (s := s) (txtO_bad (l := s.data.toList) (k := k) hlt ho (.inr (by rw [← HN.out]; exact hbig))))
              clear ho
              go_wp2_with (first | (go_at_call 120; refine (impl_isDigit _ _).mono ?_; rintro e w' ⟨rfl, rfl⟩))
              go_ret2
              exact ⟨congrArg Ending.returned HR.out.symm, Below.refl _ _⟩
            · have HS := Lib.hid (valTo_step ho hlt)
              go_wp2_with (first | (go_at_call 120; refine (impl_isDigit _ _).mono ?_; rintro e w' ⟨rfl, rfl⟩))
              go_round
              case rel => exact ⟨k + 1, 10 * n + ((s[k].toNat : Int) - 48), by go_num, by go_num, by omega, by omega, by omega, by omega, by rw [HS.out, HN.out]⟩
              case measure => simp [intOf]; omega
        · obtain rfl : k = s.size := by omega
          have HNe := Lib.hid (ne_of_size hl1)
          have HZ : Hid (n = if offL s.data.toList = 1 then - valTo s.data.toList s.data.toList.length else valTo s.data.toList s.data.toList.length) := by
            unfold Hid; rw [HF.out, blen, ← HN.out]; rfl
          have z1 : -9223372036854775808 ≤ n := by omega
          have z2 : n ≤ 9223372036854775807 := by omega
          by_cases hq : numT (n) = s.data.toList
          · have HR := Lib.hid (txtV_some (txtO_yes HNe.out _ HZ.out hq))
            have hne := str_beq_true (numS_eq.2 hq)
            clear hq
            go_wp2_with (first | (go_at_call 141; refine (impl_NumText _ _ z1 z2).mono ?_; rintro e w1 ⟨rfl, hb1⟩))
            go_ret2
            exact ⟨congrArg Ending.returned HR.out.symm, hb1⟩
          · have HR := Lib.hid (txtV_none (txtO_no HNe.out _ HZ.out hq))
            have hne := str_beq_false (fun e => hq (numS_eq.1 e))
            clear hq
            go_wp2_with (first | (go_at_call 141; refine (impl_NumText _ _ z1 z2).mono ?_; rintro e w1 ⟨rfl, hb1⟩))
            go_ret2
            exact ⟨congrArg Ending.returned HR.out.symm, hb1⟩
    · have hm' := hm
      rw [eq45] at hm'
      have HF : Hid (offL s.data.toList = if ((s[0].toNat : Int) == 45) then 1 else 0) := by
        unfold Hid; rw [HO.out, hm]; simp at hm'; simp [hm']
      rw [hm] at HF
      clear hm'
      go_enter Try.func122, Try.ntmps122
      go_wp2
      go_loop [5, 6] (fun nv i => ∃ (k : Nat) (n : Int), i = .int .i64 k ∧ nv = .int .i64 n ∧ k ≤ s.size ∧ offL s.data.toList ≤ k ∧ 0 ≤ n ∧ n ≤ 5000000000000000009 ∧ n = valTo s.data.toList k) (fun _ i => s.size - (intOf i).toNat)
      case atStart => exact ⟨1, 0, rfl, rfl, by omega, by rw [HF.out]; decide, by omega, by omega, by rw [valTo_start]; rw [HF.out]; decide⟩
      case round =>
        obtain ⟨k, n, rfl, rfl, hk, ho, hn0, hn1, hnv⟩ := hrel
        have HN := Lib.hid hnv
        clear hnv
        by_cases hlt : k < s.size
        · have u := s[k].toNat_lt
          cases hd : digI (s[k].toNat : Int)
          · have HR := Lib.hid (txtV_none (s := s) (txtO_bad (l := s.data.toList) (k := k) hlt ho (.inl (by rw [at_get hlt]; unfold digI at hd; simp at hd; omega))))
            clear ho
            go_wp2_with (first | (go_at_call 120; refine (impl_isDigit _ _).mono ?_; rintro e w' ⟨rfl, rfl⟩))
            go_ret2
            exact ⟨congrArg Ending.returned HR.out.symm, Below.refl _ _⟩
          · have hd1 : 48 ≤ (s[k].toNat : Int) := by unfold digI at hd; simp at hd; omega
            have hd2 : (s[k].toNat : Int) ≤ 57 := by unfold digI at hd; simp at hd; omega
            by_cases hbig : 500000000000000000 < n
            · have HR := Lib.hid (txtV_none (s := s) (txtO_bad (l := s.data.toList) (k := k) hlt ho (.inr (by rw [← HN.out]; exact hbig))))
              clear ho
              go_wp2_with (first | (go_at_call 120; refine (impl_isDigit _ _).mono ?_; rintro e w' ⟨rfl, rfl⟩))
              go_ret2
              exact ⟨congrArg Ending.returned HR.out.symm, Below.refl _ _⟩
            · have HS := Lib.hid (valTo_step ho hlt)
              go_wp2_with (first | (go_at_call 120; refine (impl_isDigit _ _).mono ?_; rintro e w' ⟨rfl, rfl⟩))
              go_round
              case rel => exact ⟨k + 1, 10 * n + ((s[k].toNat : Int) - 48), by go_num, by go_num, by omega, by omega, by omega, by omega, by rw [HS.out, HN.out]⟩
              case measure => simp [intOf]; omega
        · obtain rfl : k = s.size := by omega
          have HNe := Lib.hid (ne_of_size hl1)
          have HZ : Hid (-n = if offL s.data.toList = 1 then - valTo s.data.toList s.data.toList.length else valTo s.data.toList s.data.toList.length) := by
            unfold Hid; rw [HF.out, blen, ← HN.out]; rfl
          have z1 : -9223372036854775808 ≤ -n := by omega
          have z2 : -n ≤ 9223372036854775807 := by omega
          by_cases hq : numT (-n) = s.data.toList
          · have HR := Lib.hid (txtV_some (txtO_yes HNe.out _ HZ.out hq))
            have hne := str_beq_true (numS_eq.2 hq)
            clear hq
            go_wp2_with (first | (go_at_call 141; refine (impl_NumText _ _ z1 z2).mono ?_; rintro e w1 ⟨rfl, hb1⟩))
            go_ret2
            exact ⟨congrArg Ending.returned HR.out.symm, hb1⟩
          · have HR := Lib.hid (txtV_none (txtO_no HNe.out _ HZ.out hq))
            have hne := str_beq_false (fun e => hq (numS_eq.1 e))
            clear hq
            go_wp2_with (first | (go_at_call 141; refine (impl_NumText _ _ z1 z2).mono ?_; rintro e w1 ⟨rfl, hb1⟩))
            go_ret2
            exact ⟨congrArg Ending.returned HR.out.symm, hb1⟩
  · have HR := Lib.hid (txtV_none (s := s) (txtO_len (by rw [blen]; omega)))
    by_cases hl1 : s.size = 0
    · have ht0 : ((s.size : Int) == 0) = true := beq_iff_eq.2 (by omega)
      have HL := Lib.hid hl1
      clear hl1
      go_enter Try.func122, Try.ntmps122
      go_wp2
      go_ret2
      exact ⟨congrArg Ending.returned HR.out.symm, Below.refl _ _⟩
    · have ht0 : ((s.size : Int) == 0) = false := beq_eq_false_iff_ne.2 (by omega)
      have h20 : 20 < s.size := by omega
      clear hl1
      go_enter Try.func122, Try.ntmps122
      go_wp2
      go_ret2
      exact ⟨congrArg Ending.returned HR.out.symm, Below.refl _ _⟩

set_option maxHeartbeats 1000000 in
theorem spec_TextNum (w : World) (s : ByteArray) (hs : s.size ≤ maxLen) : Calls Try.prog 72 #[.string s] w fun e w' => e = .returned (txtV s) ∧ Below w.heap.size w w' := by
  unfold maxLen at hs
  by_cases hl : 1 ≤ s.size ∧ s.size ≤ 20
  · obtain ⟨hl1, hl2⟩ := hl
    have h0 : 0 < s.size := hl1
    have HO := Lib.hid (offL_s h0)
    have HF : Hid (offL s.data.toList = if ((s[0].toNat : Int) == 45) then 1 else 0) := by
      unfold Hid; rw [HO.out, eq45]; simp
    have ho1 : offL s.data.toList ≤ 1 := by rw [HF.out]; split <;> omega
    go_enter Try.func72, Try.ntmps72
    go_wp2
    go_loop [4, 5] (fun nv i => ∃ (k : Nat) (n : Int), i = .int .i64 k ∧ nv = .int .i64 n ∧ k ≤ s.size ∧ 0 ≤ n ∧ n ≤ 5000000000000000009 ∧ n = valTo s.data.toList k) (fun _ i => s.size - (intOf i).toNat)
    case atStart => exact ⟨0, 0, rfl, rfl, by omega, by omega, by omega, by rw [valTo_start _ _ (by omega)]⟩
    case round =>
      obtain ⟨k, n, rfl, rfl, hk, hn0, hn1, hnv⟩ := hrel
      have HN := Lib.hid hnv
      clear hnv
      by_cases hlt : k < s.size
      · have u := s[k].toNat_lt
        by_cases hskip : k = 0 ∧ s[0] = 45
        · obtain ⟨rfl, h45⟩ := hskip
          have hm : ((s[0].toNat : Int) == 45) = true := by rw [eq45]; simp [h45]
          have HV : Hid (n = valTo s.data.toList 1) := by
            unfold Hid; rw [HN.out, valTo_start _ _ (by omega), valTo_start _ _ (by rw [HF.out, hm]; decide)]
          clear h45
          go_wp2
          go_round
          case rel => exact ⟨1, n, by go_num, rfl, by omega, by omega, by omega, HV.out⟩
          case measure => simp [intOf]; omega
        · have ho : offL s.data.toList ≤ k := by
            rcases Nat.eq_zero_or_pos k with h | h
            · subst h
              rw [HO.out, if_neg (fun e => hskip ⟨rfl, e⟩)]; omega
            · omega
          have ht : ((k : Int) == 0) = false ∨ (((k : Int) == 0) = true ∧ ((s[0].toNat : Int) == 45) = false) := by
            by_cases h : k = 0
            · right; refine ⟨by simp [h], ?_⟩; rw [eq45]; simpa using fun e => hskip ⟨h, e⟩
            · left; simpa using h
          have Ho := Lib.hid ho
          clear hskip ho
          rcases ht with ht | ⟨ht, ht2⟩
          all_goals
            by_cases hd : 48 ≤ s[k].toNat ∧ s[k].toNat ≤ 57
            · obtain ⟨d1, d2⟩ := hd
              have hd1 : 48 ≤ (s[k].toNat : Int) := by omega
              have hd2 : (s[k].toNat : Int) ≤ 57 := by omega
              by_cases hbig : 500000000000000000 < n
              · have HR := Lib.hid (txtV_none (s := s) (txtO_bad (l := s.data.toList) (k := k) hlt Ho.out (.inr (by rw [← HN.out]; exact hbig))))
                go_wp2
                go_ret2
                exact ⟨congrArg Ending.returned HR.out.symm, Below.refl _ _⟩
              · have HS := Lib.hid (valTo_step Ho.out hlt)
                go_wp2
                go_round
                case rel => exact ⟨k + 1, n * 10 + ((s[k].toNat : Int) - 48), by go_num, by go_num, by omega, by omega, by omega, by rw [HS.out, ← HN.out]; omega⟩
                case measure => simp [intOf]; omega
            · have HR := Lib.hid (txtV_none (s := s) (txtO_bad (l := s.data.toList) (k := k) hlt Ho.out (.inl (by rw [at_get hlt]; exact hd))))
              by_cases d1 : 48 ≤ (s[k].toNat : Int)
              · have d2 : 57 < (s[k].toNat : Int) := by omega
                clear hd
                go_wp2
                go_ret2
                exact ⟨congrArg Ending.returned HR.out.symm, Below.refl _ _⟩
              · clear hd
                go_wp2
                go_ret2
                exact ⟨congrArg Ending.returned HR.out.symm, Below.refl _ _⟩
      · obtain rfl : k = s.size := by omega
        have HNe := Lib.hid (ne_of_size hl1)
        cases hm : ((s[0].toNat : Int) == 45)
        · rw [hm] at HF
          have HZ : Hid (n = if offL s.data.toList = 1 then - valTo s.data.toList s.data.toList.length else valTo s.data.toList s.data.toList.length) := by
            unfold Hid; rw [HF.out, blen, ← HN.out]; rfl
          have z1 : -9223372036854775808 ≤ n := by omega
          have z2 : n ≤ 9223372036854775807 := by omega
          by_cases hq : numT (n) = s.data.toList
          · have HR := Lib.hid (txtV_some (txtO_yes HNe.out _ HZ.out hq))
            have hne := str_beq_true (numS_eq.2 hq)
            clear hq
            go_wp2_with (first | (go_at_call 114; refine (spec_NumText _ _ z1 z2).mono ?_; rintro e w1 ⟨rfl, hb1⟩))
            go_ret2
            exact ⟨congrArg Ending.returned HR.out.symm, hb1⟩
          · have HR := Lib.hid (txtV_none (txtO_no HNe.out _ HZ.out hq))
            have hne := str_beq_false (fun e => hq (numS_eq.1 e))
            clear hq
            go_wp2_with (first | (go_at_call 114; refine (spec_NumText _ _ z1 z2).mono ?_; rintro e w1 ⟨rfl, hb1⟩))
            go_ret2
            exact ⟨congrArg Ending.returned HR.out.symm, hb1⟩
        · rw [hm] at HF
          have HZ : Hid (-n = if offL s.data.toList = 1 then - valTo s.data.toList s.data.toList.length else valTo s.data.toList s.data.toList.length) := by
            unfold Hid; rw [HF.out, blen, ← HN.out]; rfl
          have z1 : -9223372036854775808 ≤ -n := by omega
          have z2 : -n ≤ 9223372036854775807 := by omega
          by_cases hq : numT (-n) = s.data.toList
          · have HR := Lib.hid (txtV_some (txtO_yes HNe.out _ HZ.out hq))
            have hne := str_beq_true (numS_eq.2 hq)
            clear hq
            go_wp2_with (first | (go_at_call 114; refine (spec_NumText _ _ z1 z2).mono ?_; rintro e w1 ⟨rfl, hb1⟩))
            go_ret2
            exact ⟨congrArg Ending.returned HR.out.symm, hb1⟩
          · have HR := Lib.hid (txtV_none (txtO_no HNe.out _ HZ.out hq))
            have hne := str_beq_false (fun e => hq (numS_eq.1 e))
            clear hq
            go_wp2_with (first | (go_at_call 114; refine (spec_NumText _ _ z1 z2).mono ?_; rintro e w1 ⟨rfl, hb1⟩))
            go_ret2
            exact ⟨congrArg Ending.returned HR.out.symm, hb1⟩
  · have HR := Lib.hid (txtV_none (s := s) (txtO_len (by rw [blen]; omega)))
    by_cases hl1 : s.size < 1
    · go_enter Try.func72, Try.ntmps72
      go_wp2
      go_ret2
      exact ⟨congrArg Ending.returned HR.out.symm, Below.refl _ _⟩
    · have h20 : 20 < s.size := by omega
      go_enter Try.func72, Try.ntmps72
      go_wp2
      go_ret2
      exact ⟨congrArg Ending.returned HR.out.symm, Below.refl _ _⟩
end Go.Proofs.Ytngobmjdbjlkcaa
