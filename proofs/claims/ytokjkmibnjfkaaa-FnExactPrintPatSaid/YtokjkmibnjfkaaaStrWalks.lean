/- What the byte and word functions of both texts return. -/
import Derived.Test.YtokjkmibnjfkaaaProg
import Derived.Test.YtokjkmibnjfkaaaStr
import Derived.WalkKit
import Derived.Lib.Hide
namespace Go.Proofs.Ytokjkmibnjfkaaa
open Go.RowKit

theorem ret_b {a b : Bool} (h : a = b) : Ending.returned (.bool a) = .returned (.bool b) := by rw [h]
theorem ret_n {k : IntKind} {a b : Int} (h : a = b) : Ending.returned (.int k a) = .returned (.int k b) := by rw [h]

theorem impl_isDigit (w : World) (n : Int) : Calls Try.prog 135 #[.int .u8 n] w fun e w' => e = .returned (.bool (digI n)) ∧ w = w' := by
  go_enter Try.func135, Try.ntmps135
  go_wp2
  all_goals
    go_ret
    exact ⟨ret_b (by grind [digI]), rfl⟩
theorem impl_isLower (w : World) (n : Int) : Calls Try.prog 105 #[.int .u8 n] w fun e w' => e = .returned (.bool (lowI n)) ∧ w = w' := by
  go_enter Try.func105, Try.ntmps105
  go_wp2
  all_goals
    go_ret
    exact ⟨ret_b (by grind [lowI]), rfl⟩
theorem impl_isUpper (w : World) (n : Int) : Calls Try.prog 133 #[.int .u8 n] w fun e w' => e = .returned (.bool (uppI n)) ∧ w = w' := by
  go_enter Try.func133, Try.ntmps133
  go_wp2
  all_goals
    go_ret
    exact ⟨ret_b (by grind [uppI]), rfl⟩
theorem spec_l01Class (w : World) (n : Int) : Calls Try.prog 121 #[.int .u8 n] w fun e w' => e = .returned (.int .i64 (clsI n)) ∧ w = w' := by
  go_enter Try.func121, Try.ntmps121
  go_wp2
  all_goals
    go_ret
    exact ⟨ret_n (by grind [clsI, lowI, uppI, digI]), rfl⟩
theorem impl_isWord (w : World) (n : Int) : Calls Try.prog 129 #[.int .u8 n] w fun e w' => e = .returned (.bool (worI n)) ∧ w = w' := by
  go_enter Try.func129, Try.ntmps129
  go_wp2_with (first | (go_at_call 105; refine (impl_isLower _ _).mono ?_; rintro e w' ⟨rfl, rfl⟩) | (go_at_call 133; refine (impl_isUpper _ _).mono ?_; rintro e w' ⟨rfl, rfl⟩) | (go_at_call 135; refine (impl_isDigit _ _).mono ?_; rintro e w' ⟨rfl, rfl⟩))
  all_goals
    go_ret
    exact ⟨ret_b (by grind [worI]), rfl⟩
theorem impl_within (w : World) (n a b : Int) : Calls Try.prog 68 #[.int .i64 n, .int .i64 a, .int .i64 b] w fun e w' => e = .returned (.bool (decide (a ≤ n) && decide (n ≤ b))) ∧ w = w' := by
  go_enter Try.func68, Try.ntmps68
  go_wp2
  all_goals
    go_ret
    exact ⟨ret_b (by grind), rfl⟩

theorem impl_wordOk (w : World) (s : ByteArray) (hs : s.size ≤ maxLen) : Calls Try.prog 104 #[.string s] w fun e w' => e = .returned (.bool (wordM s.data.toList)) ∧ w = w' := by
  unfold maxLen at hs
  go_enter Try.func104, Try.ntmps104
  go_wp2
  go_loop [6] (fun i => ∃ k : Nat, k ≤ s.size ∧ i = .int .i64 k ∧ allWor (s.data.toList.take k) = true) (fun i => s.size - (intOf i).toNat)
  case atStart => exact ⟨0, Nat.zero_le _, rfl, rfl⟩
  case round =>
    obtain ⟨k, hk, rfl, hall⟩ := hrel
    have HA := Lib.hid hall
    clear hall
    by_cases hlt : k < s.size
    · cases hw : worI (s[k].toNat : Int)
      · have HF := Lib.hid (allWor_stop s k hlt hw)
        go_wp2_with (first | (go_at_call 129; refine (impl_isWord _ _).mono ?_; rintro e w' ⟨rfl, rfl⟩))
        go_ret
        exact ⟨ret_b (by rw [wordM, HF.out]; rfl), rfl⟩
      · have HF := Lib.hid (allWor_snoc s k hlt HA.out hw)
        go_wp2_with (first | (go_at_call 129; refine (impl_isWord _ _).mono ?_; rintro e w' ⟨rfl, rfl⟩))
        go_round
        case rel => exact ⟨k + 1, by omega, by go_num, HF.out⟩
        case measure => simp [intOf]; omega
    · have HF := Lib.hid (allWor_end s k (by omega) HA.out)
      go_wp2_with (first | (go_at_call 68; refine (impl_within _ _ _ _).mono ?_; rintro e w' ⟨rfl, rfl⟩))
      go_ret
      exact ⟨ret_b (by rw [wordM, HF.out, blen]; grind), rfl⟩

theorem spec_l01Word (w : World) (s : ByteArray) (f : Int) (hs : s.size ≤ maxLen) : Calls Try.prog 90 #[.string s, .int .i64 f] w fun e w' => e = .returned (.bool (spWord f s.data.toList)) ∧ w = w' := by
  unfold maxLen at hs
  by_cases hl : 1 ≤ s.size ∧ s.size ≤ 12
  · obtain ⟨hl1, hl2⟩ := hl
    have h0 : 0 < s.size := hl1
    cases hc : (clsI (s[0].toNat : Int) != f)
    · have HS := Lib.hid (spWord_all h0 hl2 hc)
      go_enter Try.func90, Try.ntmps90
      go_wp2_with (first | (go_at_call 121; refine (spec_l01Class _ _).mono ?_; rintro e w' ⟨rfl, rfl⟩))
      go_loop [5] (fun i => ∃ k : Nat, k ≤ s.size ∧ i = .int .i64 k ∧ allWor (s.data.toList.take k) = true) (fun i => s.size - (intOf i).toNat)
      case atStart => exact ⟨0, Nat.zero_le _, rfl, rfl⟩
      case round =>
        obtain ⟨k, hk, rfl, hall⟩ := hrel
        have HA := Lib.hid hall
        clear hall
        by_cases hlt : k < s.size
        · cases hw : worI (s[k].toNat : Int)
          · have HF := Lib.hid (allWor_stop s k hlt hw)
            have hz : (clsI (s[k].toNat : Int) == 0) = true := by rw [cls_zero, hw]; rfl
            go_wp2_with (first | (go_at_call 121; refine (spec_l01Class _ _).mono ?_; rintro e w' ⟨rfl, rfl⟩))
            go_ret
            exact ⟨ret_b (by rw [HS.out, HF.out]), rfl⟩
          · have HF := Lib.hid (allWor_snoc s k hlt HA.out hw)
            have hz : (clsI (s[k].toNat : Int) == 0) = false := by rw [cls_zero, hw]; rfl
            go_wp2_with (first | (go_at_call 121; refine (spec_l01Class _ _).mono ?_; rintro e w' ⟨rfl, rfl⟩))
            go_round
            case rel => exact ⟨k + 1, by omega, by go_num, HF.out⟩
            case measure => simp [intOf]; omega
        · have HF := Lib.hid (allWor_end s k (by omega) HA.out)
          go_wp2
          go_ret
          exact ⟨ret_b (by rw [HS.out, HF.out]), rfl⟩
    · have HS := Lib.hid (spWord_head h0 hc)
      go_enter Try.func90, Try.ntmps90
      go_wp2_with (first | (go_at_call 121; refine (spec_l01Class _ _).mono ?_; rintro e w' ⟨rfl, rfl⟩))
      go_ret
      exact ⟨ret_b HS.out.symm, rfl⟩
  · have HS := Lib.hid (spWord_len (f := f) hl)
    by_cases hl1 : s.size < 1
    all_goals
      go_enter Try.func90, Try.ntmps90
      go_wp2
      go_ret
      exact ⟨ret_b HS.out.symm, rfl⟩
theorem spec_ConOk (w : World) (s : ByteArray) (hs : s.size ≤ maxLen) : Calls Try.prog 92 #[.string s] w fun e w' => e = .returned (.bool (conM s.data.toList)) ∧ w = w' := by
  go_enter Try.func92, Try.ntmps92
  go_wp2_with (first | (go_at_call 90; refine (spec_l01Word _ _ _ hs).mono ?_; rintro e w' ⟨rfl, rfl⟩))
  go_ret
  exact ⟨ret_b (spWord_con _), rfl⟩
theorem impl_ConOk (w : World) (s : ByteArray) (hs : s.size ≤ maxLen) : Calls Try.prog 127 #[.string s] w fun e w' => e = .returned (.bool (conM s.data.toList)) ∧ w = w' := by
  cases hW : wordM s.data.toList
  · go_enter Try.func127, Try.ntmps127
    go_wp2_with (first | (go_at_call 104; refine (impl_wordOk _ _ hs).mono ?_; rintro e w' ⟨rfl, rfl⟩))
    go_ret
    exact ⟨ret_b (conM_not hW), rfl⟩
  · have h0 := wordM_pos hW
    go_enter Try.func127, Try.ntmps127
    go_wp2_with (first | (go_at_call 104; refine (impl_wordOk _ _ hs).mono ?_; rintro e w' ⟨rfl, rfl⟩) | (go_at_call 133; refine (impl_isUpper _ _).mono ?_; rintro e w' ⟨rfl, rfl⟩))
    go_ret
    exact ⟨ret_b (conM_of hW h0), rfl⟩
end Go.Proofs.Ytokjkmibnjfkaaa
