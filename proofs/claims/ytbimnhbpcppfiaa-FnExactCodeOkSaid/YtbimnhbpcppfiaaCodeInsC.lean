/- An instruction: both texts. -/
import Derived.Test.YtbimnhbpcppfiaaCodeInsB
namespace Go.Proofs.Ytbimnhbpcppfiaa
set_option linter.unusedVariables false
set_option linter.unusedSimpArgs false
open Go.RowKit
set_option maxRecDepth 100000 in
set_option maxHeartbeats 8000000 in
theorem impl_insOk (w : World) (a1 a2 : Option Addr) (n c1 m c2 : Nat) (hn : n ≤ 1000000000) (hm : m ≤ 1000000000) (x : DIns) (hx : insOk x) :
    Calls Try.prog 113 #[.agg #[.slice a1 n c1, .slice a2 m c2], .agg #[.int .i64 x.op, .int .i64 x.a, .int .i64 x.b, .string x.s]] w fun e w' => e = .returned (.bool (insM n m x)) ∧ Below w.heap.size w w' := by
  obtain ⟨op, a, b, s⟩ := x
  obtain ⟨ho, ha, hb, hsz⟩ := hx
  unfold I64 at ho ha hb
  dsimp only at ho ha hb hsz ⊢
  cases hl : leadsM op
  · rcases (show op = 20 ∨ op = 6 ∨ op = 15 ∨ op = 1 ∨ op = 4 ∨ op = 2 ∨ op = 7 ∨ op = 16 ∨ (¬ op = 20 ∧ ¬ op = 6 ∧ ¬ op = 15 ∧ ¬ op = 1 ∧ ¬ op = 4 ∧ ¬ op = 2 ∧ ¬ op = 7 ∧ ¬ op = 16) by omega) with rfl | rfl | rfl | rfl | rfl | rfl | rfl | rfl | ⟨n1, n2, n3, n4, n5, n6, n7, n8⟩
    · have hL : insM n m ⟨20, a, b, s⟩ = (decide (0 ≤ a) && decide (a < m) && (decide (0 ≤ b) && decide (b < n)) && s.toList.isEmpty) := by unfold insM; simp [leadsM]
      rw [hL]
      clear hl
      go_enter Try.func113, Try.ntmps113
      go_wp2_with (first | (go_at_call 145; refine (impl_leads _ _).mono ?_; rintro e w' ⟨rfl, rfl⟩) | (go_at_call 80; refine (impl_within _ _ _ _).mono ?_; rintro e w' ⟨rfl, rfl⟩))
      all_goals
        go_ret
        refine ⟨ret_b ?_, (by repeat (first | with_reducible exact Below.refl _ _ | with_reducible assumption | with_reducible refine Below.setCell ?_ ?_ _ | with_reducible refine Below.alloc ?_ ?_ _ | with_reducible refine Below.drew ?_ | (with_reducible apply below_chain; with_reducible assumption) | exact Nat.le_refl _ | omega | (simp <;> omega)))⟩
        first | (simp_all; done) | grind
    · have hL : insM n m ⟨6, a, b, s⟩ = (decide (0 ≤ a) && (decide (a ≤ 3000) && ((b == 0) && s.toList.isEmpty))) := by unfold insM; simp [leadsM, Bool.and_assoc]
      rw [hL]
      clear hl
      go_enter Try.func113, Try.ntmps113
      go_wp2_with (first | (go_at_call 145; refine (impl_leads _ _).mono ?_; rintro e w' ⟨rfl, rfl⟩) | (go_at_call 80; refine (impl_within _ _ _ _).mono ?_; rintro e w' ⟨rfl, rfl⟩))
      all_goals
        go_ret
        refine ⟨ret_b ?_, (by first | exact (by repeat (first | with_reducible exact Below.refl _ _ | with_reducible assumption | with_reducible refine Below.setCell ?_ ?_ _ | with_reducible refine Below.alloc ?_ ?_ _ | with_reducible refine Below.drew ?_ | (with_reducible apply below_chain; with_reducible assumption) | exact Nat.le_refl _ | omega | (simp <;> omega))) | exact (below_drewI ((by repeat (first | with_reducible exact Below.refl _ _ | with_reducible assumption | with_reducible refine Below.setCell ?_ ?_ _ | with_reducible refine Below.alloc ?_ ?_ _ | with_reducible refine Below.drew ?_ | (with_reducible apply below_chain; with_reducible assumption) | exact Nat.le_refl _ | omega | (simp <;> omega)))) _))⟩
        try clear kc1 kf1 hb1
        first | (simp_all; done) | grind
    · have hL : insM n m ⟨15, a, b, s⟩ = (decide (0 ≤ a) && (decide (a ≤ 3000) && ((b == 0) && s.toList.isEmpty))) := by unfold insM; simp [leadsM, Bool.and_assoc]
      rw [hL]
      clear hl
      go_enter Try.func113, Try.ntmps113
      go_wp2_with (first | (go_at_call 145; refine (impl_leads _ _).mono ?_; rintro e w' ⟨rfl, rfl⟩) | (go_at_call 80; refine (impl_within _ _ _ _).mono ?_; rintro e w' ⟨rfl, rfl⟩))
      all_goals
        go_ret
        refine ⟨ret_b ?_, (by first | exact (by repeat (first | with_reducible exact Below.refl _ _ | with_reducible assumption | with_reducible refine Below.setCell ?_ ?_ _ | with_reducible refine Below.alloc ?_ ?_ _ | with_reducible refine Below.drew ?_ | (with_reducible apply below_chain; with_reducible assumption) | exact Nat.le_refl _ | omega | (simp <;> omega))) | exact (below_drewI ((by repeat (first | with_reducible exact Below.refl _ _ | with_reducible assumption | with_reducible refine Below.setCell ?_ ?_ _ | with_reducible refine Below.alloc ?_ ?_ _ | with_reducible refine Below.drew ?_ | (with_reducible apply below_chain; with_reducible assumption) | exact Nat.le_refl _ | omega | (simp <;> omega)))) _))⟩
        try clear kc1 kf1 hb1
        first | (simp_all; done) | grind
    · have hL : insM n m ⟨1, a, b, s⟩ = (decide (-4611686018427387904 ≤ a) && (decide (a ≤ 4611686018427387903) && ((b == 0) && s.toList.isEmpty))) := by unfold insM; simp [leadsM, Bool.and_assoc]
      rw [hL]
      clear hl
      go_enter Try.func113, Try.ntmps113
      go_wp2_with (first | (go_at_call 145; refine (impl_leads _ _).mono ?_; rintro e w' ⟨rfl, rfl⟩) | (go_at_call 80; refine (impl_within _ _ _ _).mono ?_; rintro e w' ⟨rfl, rfl⟩))
      all_goals
        go_ret
        refine ⟨ret_b ?_, (by first | exact (by repeat (first | with_reducible exact Below.refl _ _ | with_reducible assumption | with_reducible refine Below.setCell ?_ ?_ _ | with_reducible refine Below.alloc ?_ ?_ _ | with_reducible refine Below.drew ?_ | (with_reducible apply below_chain; with_reducible assumption) | exact Nat.le_refl _ | omega | (simp <;> omega))) | exact (below_drewI ((by repeat (first | with_reducible exact Below.refl _ _ | with_reducible assumption | with_reducible refine Below.setCell ?_ ?_ _ | with_reducible refine Below.alloc ?_ ?_ _ | with_reducible refine Below.drew ?_ | (with_reducible apply below_chain; with_reducible assumption) | exact Nat.le_refl _ | omega | (simp <;> omega)))) _))⟩
        try clear kc1 kf1 hb1
        first | (simp_all; done) | grind
    · have hL : insM n m ⟨4, a, b, s⟩ = (decide (0 ≤ a) && (decide (a ≤ 1) && ((b == 0) && shapeM s a.toNat true))) := by unfold insM; simp [leadsM, Bool.and_assoc]
      rw [hL]
      clear hl
      by_cases ha0 : 0 ≤ a
      · obtain ⟨k, rfl⟩ : ∃ k : Nat, a = (k : Int) := ⟨a.toNat, by omega⟩
        rw [Int.toNat_natCast]
        go_enter Try.func113, Try.ntmps113
        go_wp2_with (first | (go_at_call 145; refine (impl_leads _ _).mono ?_; rintro e w' ⟨rfl, rfl⟩) | (go_at_call 80; refine (impl_within _ _ _ _).mono ?_; rintro e w' ⟨rfl, rfl⟩) | (go_at_call 182; refine (impl_conShape _ s hsz k true).mono ?_; rintro e w' ⟨rfl, rfl⟩))
        all_goals
          go_ret
          refine ⟨ret_b ?_, (by first | exact (by repeat (first | with_reducible exact Below.refl _ _ | with_reducible assumption | with_reducible refine Below.setCell ?_ ?_ _ | with_reducible refine Below.alloc ?_ ?_ _ | with_reducible refine Below.drew ?_ | (with_reducible apply below_chain; with_reducible assumption) | exact Nat.le_refl _ | omega | (simp <;> omega))) | exact (below_drewI ((by repeat (first | with_reducible exact Below.refl _ _ | with_reducible assumption | with_reducible refine Below.setCell ?_ ?_ _ | with_reducible refine Below.alloc ?_ ?_ _ | with_reducible refine Below.drew ?_ | (with_reducible apply below_chain; with_reducible assumption) | exact Nat.le_refl _ | omega | (simp <;> omega)))) _))⟩
          try clear kc1 kf1 hb1
          first | (simp_all; done) | grind
      · go_enter Try.func113, Try.ntmps113
        go_wp2_with (first | (go_at_call 145; refine (impl_leads _ _).mono ?_; rintro e w' ⟨rfl, rfl⟩) | (go_at_call 80; refine (impl_within _ _ _ _).mono ?_; rintro e w' ⟨rfl, rfl⟩))
        all_goals
          go_ret
          refine ⟨ret_b ?_, (by first | exact (by repeat (first | with_reducible exact Below.refl _ _ | with_reducible assumption | with_reducible refine Below.setCell ?_ ?_ _ | with_reducible refine Below.alloc ?_ ?_ _ | with_reducible refine Below.drew ?_ | (with_reducible apply below_chain; with_reducible assumption) | exact Nat.le_refl _ | omega | (simp <;> omega))) | exact (below_drewI ((by repeat (first | with_reducible exact Below.refl _ _ | with_reducible assumption | with_reducible refine Below.setCell ?_ ?_ _ | with_reducible refine Below.alloc ?_ ?_ _ | with_reducible refine Below.drew ?_ | (with_reducible apply below_chain; with_reducible assumption) | exact Nat.le_refl _ | omega | (simp <;> omega)))) _))⟩
          try clear kc1 kf1 hb1
          first | (simp_all; done) | grind
    · have hL : insM n m ⟨2, a, b, s⟩ = ((a == 0) && (b == 0)) := by unfold insM; simp [leadsM, Bool.and_assoc]
      rw [hL]
      clear hl
      go_enter Try.func113, Try.ntmps113
      go_wp2_with (first | (go_at_call 145; refine (impl_leads _ _).mono ?_; rintro e w' ⟨rfl, rfl⟩))
      all_goals
        go_ret
        refine ⟨ret_b ?_, (by first | exact (by repeat (first | with_reducible exact Below.refl _ _ | with_reducible assumption | with_reducible refine Below.setCell ?_ ?_ _ | with_reducible refine Below.alloc ?_ ?_ _ | with_reducible refine Below.drew ?_ | (with_reducible apply below_chain; with_reducible assumption) | exact Nat.le_refl _ | omega | (simp <;> omega))) | exact (below_drewI ((by repeat (first | with_reducible exact Below.refl _ _ | with_reducible assumption | with_reducible refine Below.setCell ?_ ?_ _ | with_reducible refine Below.alloc ?_ ?_ _ | with_reducible refine Below.drew ?_ | (with_reducible apply below_chain; with_reducible assumption) | exact Nat.le_refl _ | omega | (simp <;> omega)))) _))⟩
        try clear kc1 kf1 hb1
        first | (simp_all; done) | grind
    · exact impl_insOk_7 w a1 a2 n c1 m c2 hn hm a b s ha hb hsz
    · exact impl_insOk_16 w a1 a2 n c1 m c2 hn hm a b s ha hb hsz
    · exact impl_insOk_op w a1 a2 n c1 m c2 hn hm op a b s ha hb hsz ho hl n1 n2 n3 n4 n5 n6 n7 n8
  · have hL : insM n m ⟨op, a, b, s⟩ = (decide (0 ≤ a) && (decide (a < n) && ((b == 0) && s.toList.isEmpty))) := by unfold insM; simp [hl, Bool.and_assoc]
    rw [hL]
    go_enter Try.func113, Try.ntmps113
    go_wp2_with (first | (go_at_call 145; refine (impl_leads _ _).mono ?_; rintro e w' ⟨rfl, rfl⟩) | (go_at_call 80; refine (impl_within _ _ _ _).mono ?_; rintro e w' ⟨rfl, rfl⟩))
    all_goals
      go_ret
      refine ⟨ret_b ?_, (by first | exact (by repeat (first | with_reducible exact Below.refl _ _ | with_reducible assumption | with_reducible refine Below.setCell ?_ ?_ _ | with_reducible refine Below.alloc ?_ ?_ _ | with_reducible refine Below.drew ?_ | (with_reducible apply below_chain; with_reducible assumption) | exact Nat.le_refl _ | omega | (simp <;> omega))) | exact (below_drewI ((by repeat (first | with_reducible exact Below.refl _ _ | with_reducible assumption | with_reducible refine Below.setCell ?_ ?_ _ | with_reducible refine Below.alloc ?_ ?_ _ | with_reducible refine Below.drew ?_ | (with_reducible apply below_chain; with_reducible assumption) | exact Nat.le_refl _ | omega | (simp <;> omega)))) _))⟩
      try clear kc1 kf1 hb1
      first | (simp_all; done) | grind
end Go.Proofs.Ytbimnhbpcppfiaa
