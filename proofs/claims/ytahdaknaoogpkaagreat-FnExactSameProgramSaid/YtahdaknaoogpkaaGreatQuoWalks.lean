import Derived.Test.YtahdaknaoogpkaaGreatQuo
import Derived.Test.YtahdaknaoogpkaaGreatBase
import Derived.Test.YtahdaknaoogpkaaGreatDecB
/- Quote of both texts. -/
namespace Go.Proofs.YtahdaknaoogpkaaGreat
open Go.RowKit

theorem impl_hexDigit (w : World) (n : Int) (h0 : 0 ≤ n) (h1 : n < 16) : Calls Tryz.prog 180 #[.int .u8 n] w fun e w' => e = .returned (.int .u8 (hexI n)) ∧ w = w' := by
  by_cases h : n < 10
  · have H := Lib.hid (show 48 + n = hexI n by rw [hexI, if_pos h])
    go_enter Tryz.func180, Tryz.ntmps180
    go_wp2
    go_ret
    exact ⟨ret_n H.out, rfl⟩
  · have H := Lib.hid (show 97 + n - 10 = hexI n by rw [hexI, if_neg h]; omega)
    go_enter Tryz.func180, Tryz.ntmps180
    go_wp2
    go_ret
    exact ⟨ret_n H.out, rfl⟩
theorem spec_l01Hex (w : World) (n : Int) (h0 : 0 ≤ n) (h1 : n < 16) : Calls Tryz.prog 197 #[.int .i64 n] w fun e w' => e = .returned (.int .u8 (hexI n)) ∧ w = w' := by
  have h : n = 0 ∨ n = 1 ∨ n = 2 ∨ n = 3 ∨ n = 4 ∨ n = 5 ∨ n = 6 ∨ n = 7 ∨ n = 8 ∨ n = 9 ∨ n = 10 ∨ n = 11 ∨ n = 12 ∨ n = 13 ∨ n = 14 ∨ n = 15 := by omega
  clear h0 h1
  rcases h with rfl | rfl | rfl | rfl | rfl | rfl | rfl | rfl | rfl | rfl | rfl | rfl | rfl | rfl | rfl | rfl
  all_goals
    go_enter Tryz.func197, Tryz.ntmps197
    go_wp2
    go_ret
    exact ⟨rfl, rfl⟩
theorem impl_Quote (w : World) (s : ByteArray) (hs : s.size ≤ 10000000000) : Calls Tryz.prog 85 #[.string s] w fun e w' => e = .returned (.string (bs (quoL s.data.toList))) ∧ Below w.heap.size w w' := by
  go_enter Tryz.func85, Tryz.ntmps85
  go_wp2
  go_loopw [3, 9] (fun v i wr => ∃ k : Nat, k ≤ s.size ∧ i = .int .i64 k ∧ OwnB wr w.heap.size v (quoP s.data.toList k) ∧ Below w.heap.size w wr) (fun _ i _ => s.size - (intOf i).toNat)
  case atStart => exact ⟨0, Nat.zero_le _, rfl, by rw [quoP_zero]; exact OwnB.made w _ (Nat.le_refl _) [34] (by decide), (Below.refl _ _).alloc (Nat.le_refl _) _⟩
  case round =>
    obtain ⟨k, hk, rfl, hown, hbel⟩ := hrel
    have hlen := quoP_len s.data.toList k
    obtain ⟨a, c, rfl⟩ := hown.len
    have HO := Lib.hid hown
    clear hown
    by_cases hlt : k < s.size
    · have HS := Lib.hid (quoP_succ s.data.toList k hlt)
      have hq : s[k].toNat < 256 := s[k].toNat_lt
      by_cases q1 : s[k].toNat = 10
      · have HQ := Lib.hid (HS.out.trans (congrArg _ (quoB_n q1)))
        have t1 : ((s[k].toNat : Int) == 10) = true := by simp [q1]
        clear q1
        go_wp2_with (first | (at_builtin; refine app_u8_lit wr rfl _ _ rfl w.heap.size (.slice a (quoP s.data.toList k).length c) _ rfl HO.out _ rfl [92, 110] ?_ ?_ ?_ ?_))
        · rfl
        · simp; omega
        · exact hbel.size
        · intro v' w' hown' hb'
          rw [← HQ.out] at hown'
          go_wp2
          go_roundw
          case rel => exact ⟨k + 1, by omega, by go_num, hown', hbel.trans hb'⟩
          case measure => simp [intOf]; omega
      · have t1 : ((s[k].toNat : Int) == 10) = false := by simp; omega
        by_cases q2 : s[k].toNat = 34 ∨ s[k].toNat = 92
        · have HQ := Lib.hid (HS.out.trans (congrArg _ (quoB_e q1 q2)))
          have T : (((s[k].toNat : Int) == 34) = true ∧ True) ∨ (((s[k].toNat : Int) == 34) = false ∧ ((s[k].toNat : Int) == 92) = true) := by
            rcases q2 with q2 | q2
            · left; simp [q2]
            · right; simp [q2]
          clear q1 q2
          rcases T with ⟨t2, t3⟩ | ⟨t2, t3⟩
          all_goals
            go_wp2_with (first | (at_builtin; refine app_u8_lit wr rfl _ _ rfl w.heap.size (.slice a (quoP s.data.toList k).length c) _ rfl HO.out _ rfl [92, s[k]] ?_ ?_ ?_ ?_))
            · rfl
            · simp; omega
            · exact hbel.size
            · intro v' w' hown' hb'
              replace hown' : OwnB w' w.heap.size v' (quoP s.data.toList (k + 1)) := by rw [HQ.out]; exact hown'
              go_wp2
              go_roundw
              case rel => exact ⟨k + 1, by omega, by go_num, hown', hbel.trans hb'⟩
              case measure => simp [intOf]; omega
        · have t2 : ((s[k].toNat : Int) == 34) = false := by simp; omega
          have t3 : ((s[k].toNat : Int) == 92) = false := by simp; omega
          by_cases q3 : 32 ≤ s[k].toNat ∧ s[k].toNat ≤ 126
          · have HQ := Lib.hid (HS.out.trans (congrArg _ (quoB_p q1 q2 q3)))
            obtain ⟨t4, t5⟩ := q3
            clear q1 q2
            go_wp2_with (first | (at_builtin; refine app_u8_lit wr rfl _ _ rfl w.heap.size (.slice a (quoP s.data.toList k).length c) _ rfl HO.out _ rfl [s[k]] ?_ ?_ ?_ ?_))
            · rfl
            · simp; omega
            · exact hbel.size
            · intro v' w' hown' hb'
              replace hown' : OwnB w' w.heap.size v' (quoP s.data.toList (k + 1)) := by rw [HQ.out]; exact hown'
              go_wp2
              go_roundw
              case rel => exact ⟨k + 1, by omega, by go_num, hown', hbel.trans hb'⟩
              case measure => simp [intOf]; omega
          · have HQ := Lib.hid (HS.out.trans (congrArg _ (quoB_x q1 q2 q3)))
            have HX : Hid ([Value.int .u8 92, .int .u8 120, .int .u8 (hexI ((s[k].toNat : Int) / 16)), .int .u8 (hexI ((s[k].toNat : Int) % 16))] = ([92, 120, hexB (s[k].toNat / 16), hexB (s[k].toNat % 16)] : List UInt8).map byteV) := by
              have e1 := hexV (n := (s[k].toNat : Int) / 16) (by omega) (by omega)
              have e2 := hexV (n := (s[k].toNat : Int) % 16) (by omega) (by omega)
              rw [show ((s[k].toNat : Int) / 16).toNat = s[k].toNat / 16 from by omega] at e1
              rw [show ((s[k].toNat : Int) % 16).toNat = s[k].toNat % 16 from by omega] at e2
              unfold Hid
              rw [e1, e2]; rfl
            by_cases q4 : 32 ≤ s[k].toNat
            all_goals
              have q5 := q3
              clear q1 q2 q3
              go_wp2_with (first | (go_at_call 180; refine (impl_hexDigit _ _ (by omega) (by omega)).mono ?_; rintro e w' ⟨rfl, rfl⟩) | (at_builtin; refine app_u8_lit wr rfl _ _ rfl w.heap.size (.slice a (quoP s.data.toList k).length c) _ rfl HO.out _ rfl [92, 120, hexB (s[k].toNat / 16), hexB (s[k].toNat % 16)] ?_ ?_ ?_ ?_))
              · exact HX.out
              · simp; omega
              · exact hbel.size
              · intro v' w' hown' hb'
                replace hown' : OwnB w' w.heap.size v' (quoP s.data.toList (k + 1)) := by rw [HQ.out]; exact hown'
                go_wp2
                go_roundw
                case rel => exact ⟨k + 1, by omega, by go_num, hown', hbel.trans hb'⟩
                case measure => simp [intOf]; omega
    · have HE := Lib.hid (quoP_end s.data.toList k (by rw [blen]; omega))
      go_wp2_with (first | (at_builtin; refine app_u8_lit wr rfl _ _ rfl w.heap.size (.slice a (quoP s.data.toList k).length c) _ rfl HO.out _ rfl [34] ?_ ?_ ?_ ?_))
      · rfl
      · simp; omega
      · exact hbel.size
      · intro v' w' hown' hb'
        rw [HE.out] at hown'
        have hcv := run_bytes_str hown'
        go_wp2
        go_ret
        exact ⟨rfl, hbel.trans hb'⟩
theorem spec_Quote (w : World) (s : ByteArray) (hs : s.size ≤ 10000000000) : Calls Tryz.prog 110 #[.string s] w fun e w' => e = .returned (.string (bs (quoL s.data.toList))) ∧ Below w.heap.size w w' := by
  go_enter Tryz.func110, Tryz.ntmps110
  go_wp2
  go_loopw [3, 4] (fun v i wr => ∃ k : Nat, k ≤ s.size ∧ i = .int .i64 k ∧ OwnB wr w.heap.size v (quoP s.data.toList k) ∧ Below w.heap.size w wr) (fun _ i _ => s.size - (intOf i).toNat)
  case atStart => exact ⟨0, Nat.zero_le _, rfl, by rw [quoP_zero]; exact OwnB.made w _ (Nat.le_refl _) [34] (by decide), (Below.refl _ _).alloc (Nat.le_refl _) _⟩
  case round =>
    obtain ⟨k, hk, rfl, hown, hbel⟩ := hrel
    have hlen := quoP_len s.data.toList k
    obtain ⟨a, c, rfl⟩ := hown.len
    have HO := Lib.hid hown
    clear hown
    by_cases hlt : k < s.size
    · have HS := Lib.hid (quoP_succ s.data.toList k hlt)
      have hq : s[k].toNat < 256 := s[k].toNat_lt
      by_cases q1 : s[k].toNat = 10
      · have HQ := Lib.hid (HS.out.trans (congrArg _ (quoB_n q1)))
        have t1 : ((s[k].toNat : Int) == 10) = true := by simp [q1]
        clear q1
        go_wp2_with (first | (at_builtin; refine app_u8_lit wr rfl _ _ rfl w.heap.size (.slice a (quoP s.data.toList k).length c) _ rfl HO.out _ rfl [92, 110] ?_ ?_ ?_ ?_))
        · rfl
        · simp; omega
        · exact hbel.size
        · intro v' w' hown' hb'
          rw [← HQ.out] at hown'
          go_wp2
          go_roundw
          case rel => exact ⟨k + 1, by omega, by go_num, hown', hbel.trans hb'⟩
          case measure => simp [intOf]; omega
      · have t1 : ((s[k].toNat : Int) == 10) = false := by simp; omega
        by_cases q2 : s[k].toNat = 34 ∨ s[k].toNat = 92
        · have HQ := Lib.hid (HS.out.trans (congrArg _ (quoB_e q1 q2)))
          have T : (((s[k].toNat : Int) == 34) = true ∧ True) ∨ (((s[k].toNat : Int) == 34) = false ∧ ((s[k].toNat : Int) == 92) = true) := by
            rcases q2 with q2 | q2
            · left; simp [q2]
            · right; simp [q2]
          clear q1 q2
          rcases T with ⟨t2, t3⟩ | ⟨t2, t3⟩
          all_goals
            go_wp2_with (first | (at_builtin; refine app_u8_lit wr rfl _ _ rfl w.heap.size (.slice a (quoP s.data.toList k).length c) _ rfl HO.out _ rfl [92, s[k]] ?_ ?_ ?_ ?_))
            · rfl
            · simp; omega
            · exact hbel.size
            · intro v' w' hown' hb'
              replace hown' : OwnB w' w.heap.size v' (quoP s.data.toList (k + 1)) := by rw [HQ.out]; exact hown'
              go_wp2
              go_roundw
              case rel => exact ⟨k + 1, by omega, by go_num, hown', hbel.trans hb'⟩
              case measure => simp [intOf]; omega
        · have t2 : ((s[k].toNat : Int) == 34) = false := by simp; omega
          have t3 : ((s[k].toNat : Int) == 92) = false := by simp; omega
          by_cases q3 : 32 ≤ s[k].toNat ∧ s[k].toNat ≤ 126
          · have HQ := Lib.hid (HS.out.trans (congrArg _ (quoB_p q1 q2 q3)))
            obtain ⟨t4, t5⟩ := q3
            clear q1 q2
            go_wp2_with (first | (at_builtin; refine app_u8_lit wr rfl _ _ rfl w.heap.size (.slice a (quoP s.data.toList k).length c) _ rfl HO.out _ rfl [s[k]] ?_ ?_ ?_ ?_))
            · rfl
            · simp; omega
            · exact hbel.size
            · intro v' w' hown' hb'
              replace hown' : OwnB w' w.heap.size v' (quoP s.data.toList (k + 1)) := by rw [HQ.out]; exact hown'
              go_wp2
              go_roundw
              case rel => exact ⟨k + 1, by omega, by go_num, hown', hbel.trans hb'⟩
              case measure => simp [intOf]; omega
          · have HQ := Lib.hid (HS.out.trans (congrArg _ (quoB_x q1 q2 q3)))
            have HX : Hid ([Value.int .u8 92, .int .u8 120, .int .u8 (hexI ((s[k].toNat : Int) / 16)), .int .u8 (hexI ((s[k].toNat : Int) % 16))] = ([92, 120, hexB (s[k].toNat / 16), hexB (s[k].toNat % 16)] : List UInt8).map byteV) := by
              have e1 := hexV (n := (s[k].toNat : Int) / 16) (by omega) (by omega)
              have e2 := hexV (n := (s[k].toNat : Int) % 16) (by omega) (by omega)
              rw [show ((s[k].toNat : Int) / 16).toNat = s[k].toNat / 16 from by omega] at e1
              rw [show ((s[k].toNat : Int) % 16).toNat = s[k].toNat % 16 from by omega] at e2
              unfold Hid
              rw [e1, e2]; rfl
            by_cases q4 : 32 ≤ s[k].toNat
            all_goals
              have q5 := q3
              clear q1 q2 q3
              go_wp2_with (first | (go_at_call 197; refine (spec_l01Hex _ _ (by omega) (by omega)).mono ?_; rintro e w' ⟨rfl, rfl⟩) | (at_builtin; refine app_u8_lit wr rfl _ _ rfl w.heap.size (.slice a (quoP s.data.toList k).length c) _ rfl HO.out _ rfl [92, 120, hexB (s[k].toNat / 16), hexB (s[k].toNat % 16)] ?_ ?_ ?_ ?_))
              · exact HX.out
              · simp; omega
              · exact hbel.size
              · intro v' w' hown' hb'
                replace hown' : OwnB w' w.heap.size v' (quoP s.data.toList (k + 1)) := by rw [HQ.out]; exact hown'
                go_wp2
                go_roundw
                case rel => exact ⟨k + 1, by omega, by go_num, hown', hbel.trans hb'⟩
                case measure => simp [intOf]; omega
    · have HE := Lib.hid (quoP_end s.data.toList k (by rw [blen]; omega))
      go_wp2_with (first | (at_builtin; refine app_u8_lit wr rfl _ _ rfl w.heap.size (.slice a (quoP s.data.toList k).length c) _ rfl HO.out _ rfl [34] ?_ ?_ ?_ ?_))
      · rfl
      · simp; omega
      · exact hbel.size
      · intro v' w' hown' hb'
        rw [HE.out] at hown'
        have hcv := run_bytes_str hown'
        go_wp2
        go_ret
        exact ⟨rfl, hbel.trans hb'⟩
end Go.Proofs.YtahdaknaoogpkaaGreat
