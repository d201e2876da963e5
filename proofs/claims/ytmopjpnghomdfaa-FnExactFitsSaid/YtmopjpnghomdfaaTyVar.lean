import Derived.Test.YtmopjpnghomdfaaTyTxtL
import Derived.Test.YtmopjpnghomdfaaDecB
import Derived.Deep.RegionLaw
/- The text of a variable, of both texts. -/
namespace Go.Proofs.Ytmopjpnghomdfaa
set_option linter.unusedVariables false
set_option linter.unusedSimpArgs false
open Go.RowKit
theorem varT_big {v : Int} (h : 25 < v) : bs (varT v) = (⟨#[39, 122]⟩ : ByteArray) ++ bs (numT v) := by
  unfold varT; rw [if_pos h]; exact (str_app [39, 122] (numT v)).symm
theorem varT_low {v : Int} (h : ¬ 25 < v) : bs (varT v) = (⟨#[39]⟩ : ByteArray) ++ bs [UInt8.ofNat (97 + v.toNat)] := by
  unfold varT; rw [if_neg h]; exact (str_app [39] [UInt8.ofNat (97 + v.toNat)]).symm
theorem letV {v : Int} (h0 : 0 ≤ v) (h1 : v ≤ 25) : Value.int .u8 (97 + v) = byteV (UInt8.ofNat (97 + v.toNat)) := by
  unfold byteV
  congr 1
  have : (UInt8.ofNat (97 + v.toNat)).toNat = 97 + v.toNat := by rw [UInt8.toNat_ofNat']; omega
  omega
set_option maxRecDepth 100000 in
theorem spec_l04Var (w : World) (v : Int) (h0 : 0 ≤ v) (h1 : v ≤ 9999) : Calls Try.prog 114 #[.int .i64 v] w fun e w' => e = .returned (.string (bs (varT v))) ∧ Below w.heap.size w w' := by
  by_cases h : 25 < v
  · rw [varT_big h]
    have hl := numT_len v
    have hsz : (bs (numT v)).size ≤ 20 := by rw [bs_size]; exact hl
    go_enter Try.func114, Try.ntmps114
    go_wp2_with (first | (go_at_call 129; refine (spec_NumText _ _ (by omega) (by omega)).mono ?_; rintro e w1 ⟨rfl, hb1⟩))
    go_ret
    exact ⟨rfl, hb1⟩
  · rw [varT_low h]
    have hcv := run_str_one (97 + v) _ (letV h0 (by omega))
    have e2 : IntKind.i64.wrap (97 + v) = 97 + v := IntWalk.i64_in _ (by omega)
    have e3 : IntKind.u8.wrap (97 + v) = 97 + v := IntWalk.u8_in _ (by omega)
    have z2 : (bs [UInt8.ofNat (97 + v.toNat)]).size ≤ 1 := by rw [bs_size]; simp
    go_enter Try.func114, Try.ntmps114
    go_wp2_with fail
    all_goals
      go_ret
      exact ⟨rfl, (by repeat (first | with_reducible exact Below.refl _ _ | with_reducible assumption | with_reducible refine Below.setCell ?_ ?_ _ | with_reducible refine Below.alloc ?_ ?_ _ | with_reducible refine Below.drew ?_ | (with_reducible apply below_chain; with_reducible assumption) | exact Nat.le_refl _ | omega | (simp <;> omega)))⟩
set_option maxRecDepth 100000 in
theorem impl_varText (w : World) (v : Int) (h0 : 0 ≤ v) (h1 : v ≤ 9999) : Calls Try.prog 87 #[.int .i64 v] w fun e w' => e = .returned (.string (bs (varT v))) ∧ Below w.heap.size w w' := by
  by_cases h : 25 < v
  · rw [varT_big h]
    have hl := numT_len v
    have hsz : (bs (numT v)).size ≤ 20 := by rw [bs_size]; exact hl
    go_enter Try.func87, Try.ntmps87
    go_wp2_with (first | (go_at_call 98; refine (impl_NumText _ _ (by omega) (by omega)).mono ?_; rintro e w1 ⟨rfl, hb1⟩))
    go_ret
    exact ⟨rfl, hb1⟩
  · rw [varT_low h]
    have hcv := run_str_one (97 + v) _ (letV h0 (by omega))
    have e2 : IntKind.i64.wrap (97 + v) = 97 + v := IntWalk.i64_in _ (by omega)
    have e3 : IntKind.u8.wrap (97 + v) = 97 + v := IntWalk.u8_in _ (by omega)
    have z2 : (bs [UInt8.ofNat (97 + v.toNat)]).size ≤ 1 := by rw [bs_size]; simp
    go_enter Try.func87, Try.ntmps87
    go_wp2_with fail
    all_goals
      go_ret
      exact ⟨rfl, (by repeat (first | with_reducible exact Below.refl _ _ | with_reducible assumption | with_reducible refine Below.setCell ?_ ?_ _ | with_reducible refine Below.alloc ?_ ?_ _ | with_reducible refine Below.drew ?_ | (with_reducible apply below_chain; with_reducible assumption) | exact Nat.le_refl _ | omega | (simp <;> omega)))⟩
end Go.Proofs.Ytmopjpnghomdfaa
