/- An instruction: the program's text and the reference's. -/
import Derived.Test.YtbimnhbpcppfiaaCodeM
import Derived.Test.YtbimnhbpcppfiaaNameWalks
import Derived.Test.YtbimnhbpcppfiaaWrapWalks
import Derived.Test.YtbimnhbpcppfiaaSteps
import Derived.Deep.RegionLaw
import Derived.Deep.QuietTactic
import Derived.BigQuiet
namespace Go.Proofs.Ytbimnhbpcppfiaa
set_option linter.unusedVariables false
set_option linter.unusedSimpArgs false
open Go.RowKit
theorem impl_leads (w : World) (op : Int) : Calls Try.prog 145 #[.int .i64 op] w fun e w' => e = .returned (.bool (leadsM op)) ∧ w = w' := by
  go_enter Try.func145, Try.ntmps145
  go_wp2
  all_goals
    go_ret
    exact ⟨ret_b (by grind [leadsM]), rfl⟩
def givenPost (w : World) (s : ByteArray) (e : Ending) (w' : World) : Prop := (if givenM s then ∃ a, e = .returned (.slice (some a) 3 3) else e = .returned (.slice none 0 0)) ∧ Below w.heap.size w w'
set_option maxRecDepth 100000 in
set_option maxHeartbeats 2000000 in
theorem impl_given (w : World) (s : ByteArray) : Calls Try.prog 183 #[.string s] w fun e w' => givenPost w s e w' := by
  go_enter Try.func183, Try.ntmps183
  go_wp2
  all_goals
    go_ret
    refine ⟨?_, (by repeat (first | with_reducible exact Below.refl _ _ | with_reducible assumption | with_reducible refine Below.setCell ?_ ?_ _ | with_reducible refine Below.alloc ?_ ?_ _ | with_reducible refine Below.drew ?_ | (with_reducible apply below_chain; with_reducible assumption) | exact Nat.le_refl _ | omega | (simp <;> omega)))⟩
    first | (rw [if_pos (by grind [givenM])]; exact ⟨_, rfl⟩) | (rw [if_neg (by grind [givenM])]; rfl)
def primCells : List Value := primL.map Value.string
theorem impl_primOps (w : World) : Calls Try.prog 184 #[] w fun e w' => e = .returned (.slice (some ⟨w.heap.size, 0, none⟩) 10 10) ∧ w.alloc (.cells primCells.toArray 9) = w' := by
  go_enter Try.func184, Try.ntmps184
  go_wp2
  go_ret
  exact ⟨rfl, rfl⟩
set_option maxRecDepth 100000 in
set_option maxHeartbeats 2000000 in
theorem spec_l04Prim (w : World) (s : ByteArray) : Calls Try.prog 178 #[.string s] w fun e w' => e = .returned (.bool (inL s primL)) ∧ Below w.heap.size w w' := by
  have hS := Sl_new w primCells 9 (by unfold maxLen; decide)
  obtain ⟨a, c, e1, -, -, hr⟩ := hS
  injection e1 with e1 _ e2
  subst e1
  have HC : ∀ k (h : k < primL.length) (wr : World), Sub (hp (w.alloc (.cells primCells.toArray 9))) wr → wr.cell? ⟨w.heap.size, k, none⟩ = some (.string primL[k]) := by
    intro k h wr hw
    rcases hr with hr | ⟨b, off, e, hc⟩
    · simp [primCells, primL] at hr
    · injection e with e; injection e with eb eo _; subst eb; subst eo
      have := hc.cell hw (i := k) (by simpa [primCells] using h)
      simpa [primCells] using this
  clear hr
  have HC := Lib.hid HC
  go_enter Try.func178, Try.ntmps178
  go_wp2
  go_loopw [7] (fun i wr => ∃ k : Nat, k ≤ 10 ∧ i = .int .i64 k ∧ (∀ j, j < k → primL[j]? ≠ some s) ∧ Sub (hp (w.alloc (.cells primCells.toArray 9))) wr ∧ Below w.heap.size w wr) (fun i _ => 10 - (intOf i).toNat)
  case atStart => exact ⟨0, Nat.zero_le _, rfl, by omega, Sub.self _, (Below.refl _ _).alloc (Nat.le_refl _) _⟩
  case round =>
    obtain ⟨k, hk, rfl, hall, hsub, hbel⟩ := hrel
    have HA := Lib.hid hall
    clear hall
    by_cases hlt : k < 10
    · have hcell := HC.out k hlt _ hsub
      generalize hq : primL[k]'hlt = q at hcell
      by_cases hx : s = q
      · have hb := str_beq_true hx
        have HF := Lib.hid (inL_at (x := s) (l := primL) hlt (by rw [hx, ← hq]))
        clear hx hq
        go_wp2
        go_ret
        exact ⟨ret_b HF.out.symm, hbel⟩
      · have hb := str_beq_false hx
        have HF := Lib.hid hx
        have HQ := Lib.hid hq
        clear hx hq
        go_wp2
        go_roundw
        case rel =>
          refine ⟨k + 1, by omega, by go_num, fun j hj => ?_, hsub, hbel⟩
          by_cases e : j = k
          · subst e; rw [List.getElem?_eq_getElem hlt, HQ.out]; exact fun e => HF.out (Option.some.inj e).symm
          · exact HA.out j (by omega)
        case measure => simp [intOf]; omega
    · have HF := Lib.hid (inL_none (x := s) (l := primL) (fun j hj => HA.out j (by have : primL.length = 10 := rfl; omega)))
      go_wp2
      go_ret
      exact ⟨ret_b HF.out.symm, hbel⟩
theorem impl_primOps_sl (w : World) : Calls Try.prog 184 #[] w fun e w' => (∃ v, e = .returned v ∧ Sl (hp w') v (primL.map Value.string)) ∧ Below w.heap.size w w' :=
  (impl_primOps w).mono fun e w' h => ⟨⟨_, h.1, by rw [← h.2]; exact Sl_new w primCells _ (by unfold maxLen; decide)⟩, by rw [← h.2]; exact (Below.refl _ _).alloc (Nat.le_refl _) _⟩
end Go.Proofs.Ytbimnhbpcppfiaa
