/- An instruction: the program's text. -/
import Derived.Test.YtbimnhbpcppfiaaCodeIns
import Derived.Laws.Cover3
namespace Go.Proofs.Ytbimnhbpcppfiaa
set_option linter.unusedVariables false
set_option linter.unusedSimpArgs false
open Go.RowKit
theorem step_want {P : Program} {y : Nat → Option Bool} {o : Oper} {a : Act} {w : World} {K : Act → World → Prop} {Q : Exit → Act → World → Prop} {E : Prop} (hg : Region.wanted o y = true) (h : Oper.wp P o a w K Q) :
    if Region.wanted o y = true then Oper.wp P o a w K Q else E := by
  rw [if_pos hg]; exact h
set_option maxRecDepth 100000 in
set_option maxHeartbeats 8000000 in
theorem impl_insOk_7 (w : World) (a1 a2 : Option Addr) (n c1 m c2 : Nat) (hn : n ≤ 1000000000) (hm : m ≤ 1000000000) (a b : Int) (s : ByteArray) (ha : I64 a) (hb : I64 b) (hsz : s.size ≤ maxLen) :
    Calls Try.prog 113 #[.agg #[.slice a1 n c1, .slice a2 m c2], .agg #[.int .i64 7, .int .i64 a, .int .i64 b, .string s]] w fun e w' => e = .returned (.bool (insM n m ⟨7, a, b, s⟩)) ∧ Below w.heap.size w w' := by
  unfold I64 at ha hb
  have hL : insM n m ⟨7, a, b, s⟩ = ((a == 0) && ((b == 0) && givenM s)) := by unfold insM; simp [leadsM, Bool.and_assoc]
  rw [hL]
  cases hg : givenM s
  all_goals
    go_enter Try.func113, Try.ntmps113
    go_wp2_with (first | (go_at_call 145; refine (impl_leads _ _).mono ?_; rintro e w' ⟨rfl, rfl⟩) | (go_at_call 183; refine (impl_given _ s).mono ?_; unfold givenPost; rw [hg]; first | (rintro e w1 ⟨⟨ga, rfl⟩, hb1⟩; obtain ⟨kc1, kf1⟩ := bcell hb1; have kz1 := hb1.size; (try simp at kz1); (first | (refine (fun (kw1_0 : w.heap.size  < w1.heap.size) => ?_) ?_; rotate_left; omega) | skip); (first | (refine (fun (kw1_1 : w.heap.size + 1 < w1.heap.size) => ?_) ?_; rotate_left; omega) | skip); (first | (refine (fun (kw1_2 : w.heap.size + 1 + 1 < w1.heap.size) => ?_) ?_; rotate_left; omega) | skip)) | (rintro e w1 ⟨rfl, hb1⟩; obtain ⟨kc1, kf1⟩ := bcell hb1; have kz1 := hb1.size; (try simp at kz1); (first | (refine (fun (kw1_0 : w.heap.size  < w1.heap.size) => ?_) ?_; rotate_left; omega) | skip); (first | (refine (fun (kw1_1 : w.heap.size + 1 < w1.heap.size) => ?_) ?_; rotate_left; omega) | skip); (first | (refine (fun (kw1_2 : w.heap.size + 1 + 1 < w1.heap.size) => ?_) ?_; rotate_left; omega) | skip))))
    all_goals
      go_ret
      refine ⟨ret_b ?_, (by first | exact (below_drewI ((by repeat (first | with_reducible exact Below.refl _ _ | with_reducible assumption | with_reducible refine Below.setCell ?_ ?_ _ | with_reducible refine Below.alloc ?_ ?_ _ | with_reducible refine Below.drew ?_ | (with_reducible apply below_chain; with_reducible assumption) | exact Nat.le_refl _ | omega | (simp <;> omega)))) _) | exact (by repeat (first | with_reducible exact Below.refl _ _ | with_reducible assumption | with_reducible refine Below.setCell ?_ ?_ _ | with_reducible refine Below.alloc ?_ ?_ _ | with_reducible refine Below.drew ?_ | (with_reducible apply below_chain; with_reducible assumption) | exact Nat.le_refl _ | omega | (simp <;> omega))))⟩
      try clear kc1 kf1 hb1
      first | (simp_all; done) | grind
set_option maxRecDepth 100000 in
set_option maxHeartbeats 8000000 in
theorem impl_insOk_16 (w : World) (a1 a2 : Option Addr) (n c1 m c2 : Nat) (hn : n ≤ 1000000000) (hm : m ≤ 1000000000) (a b : Int) (s : ByteArray) (ha : I64 a) (hb : I64 b) (hsz : s.size ≤ maxLen) :
    Calls Try.prog 113 #[.agg #[.slice a1 n c1, .slice a2 m c2], .agg #[.int .i64 16, .int .i64 a, .int .i64 b, .string s]] w fun e w' => e = .returned (.bool (insM n m ⟨16, a, b, s⟩)) ∧ Below w.heap.size w w' := by
  unfold I64 at ha hb
  have hL : insM n m ⟨16, a, b, s⟩ = ((a == 0) && ((b == 0) && inL s primL)) := by unfold insM; simp [leadsM, Bool.and_assoc]
  rw [hL]
  by_cases h1 : a = 0
  · subst h1
    by_cases h2 : b = 0
    · subst h2
      clear hL
      go_enter Try.func113, Try.ntmps113
      go_wp2_with (first | (go_at_call 145; refine (impl_leads _ _).mono ?_; rintro e w' ⟨rfl, rfl⟩))
      (first | go_region_law (first | (refine step_want (by kernel_rfl) ?_; go_simp; go_at_call 184; refine (impl_primOps_sl _).mono ?_; rintro e w1 ⟨⟨v1, rfl, hsl⟩, hb1⟩; replace hb1 := below_undrew hb1; have HSL := Lib.hid hsl; clear hsl; obtain ⟨kc1, kf1⟩ := bcell hb1; have kz1 := hb1.size; (try simp at kz1); (first | (refine (fun (kw1_0 : w.heap.size  < w1.heap.size) => ?_) ?_; rotate_left; omega) | skip); (first | (refine (fun (kw1_1 : w.heap.size + 1 < w1.heap.size) => ?_) ?_; rotate_left; omega) | skip); (first | (refine (fun (kw1_2 : w.heap.size + 1 + 1 < w1.heap.size) => ?_) ?_; rotate_left; omega) | skip); dsimp only) | (refine step_want (by kernel_rfl) ?_; go_simp; go_at_call 133; refine (slices_Contains_string_string_ _ _ (show Sub (hp w1) _ from by first | exact Sub.self w1 | exact (Sub.self w1).drew) _ primL s HSL.out).mono ?_; rintro e w2 ⟨rfl, rfl⟩; dsimp only)) | fail)
      all_goals
        go_wp2_with fail
        go_ret
        exact ⟨ret_b (by simp), (by first | exact (below_drewI ((by repeat (first | with_reducible exact Below.refl _ _ | with_reducible assumption | with_reducible refine Below.setCell ?_ ?_ _ | with_reducible refine Below.alloc ?_ ?_ _ | with_reducible refine Below.drew ?_ | (with_reducible apply below_chain; with_reducible assumption) | exact Nat.le_refl _ | omega | (simp <;> omega)))) _) | exact (by repeat (first | with_reducible exact Below.refl _ _ | with_reducible assumption | with_reducible refine Below.setCell ?_ ?_ _ | with_reducible refine Below.alloc ?_ ?_ _ | with_reducible refine Below.drew ?_ | (with_reducible apply below_chain; with_reducible assumption) | exact Nat.le_refl _ | omega | (simp <;> omega))))⟩
    · have h3 : (b == 0) = false := by simpa using h2
      go_enter Try.func113, Try.ntmps113
      go_wp2_with (first | (go_at_call 145; refine (impl_leads _ _).mono ?_; rintro e w' ⟨rfl, rfl⟩))
      go_quiet (fail)
      go_wp2_with fail
      go_ret
      exact ⟨ret_b (by simp [h3]), (by first | exact (below_drewI ((by repeat (first | with_reducible exact Below.refl _ _ | with_reducible assumption | with_reducible refine Below.setCell ?_ ?_ _ | with_reducible refine Below.alloc ?_ ?_ _ | with_reducible refine Below.drew ?_ | (with_reducible apply below_chain; with_reducible assumption) | exact Nat.le_refl _ | omega | (simp <;> omega)))) _) | exact (by repeat (first | with_reducible exact Below.refl _ _ | with_reducible assumption | with_reducible refine Below.setCell ?_ ?_ _ | with_reducible refine Below.alloc ?_ ?_ _ | with_reducible refine Below.drew ?_ | (with_reducible apply below_chain; with_reducible assumption) | exact Nat.le_refl _ | omega | (simp <;> omega))))⟩
  · have h3 : (a == 0) = false := by simpa using h1
    go_enter Try.func113, Try.ntmps113
    go_wp2_with (first | (go_at_call 145; refine (impl_leads _ _).mono ?_; rintro e w' ⟨rfl, rfl⟩))
    go_quiet (fail)
    go_wp2_with fail
    go_ret
    exact ⟨ret_b (by simp [h3]), (by first | exact (below_drewI ((by repeat (first | with_reducible exact Below.refl _ _ | with_reducible assumption | with_reducible refine Below.setCell ?_ ?_ _ | with_reducible refine Below.alloc ?_ ?_ _ | with_reducible refine Below.drew ?_ | (with_reducible apply below_chain; with_reducible assumption) | exact Nat.le_refl _ | omega | (simp <;> omega)))) _) | exact (by repeat (first | with_reducible exact Below.refl _ _ | with_reducible assumption | with_reducible refine Below.setCell ?_ ?_ _ | with_reducible refine Below.alloc ?_ ?_ _ | with_reducible refine Below.drew ?_ | (with_reducible apply below_chain; with_reducible assumption) | exact Nat.le_refl _ | omega | (simp <;> omega))))⟩
set_option maxRecDepth 100000 in
set_option maxHeartbeats 8000000 in
theorem impl_insOk_op (w : World) (a1 a2 : Option Addr) (n c1 m c2 : Nat) (hn : n ≤ 1000000000) (hm : m ≤ 1000000000) (op a b : Int) (s : ByteArray) (ha : I64 a) (hb : I64 b) (hsz : s.size ≤ maxLen) (ho : I64 op) (hl : leadsM op = false) (n1 : ¬ op = 20) (n2 : ¬ op = 6) (n3 : ¬ op = 15) (n4 : ¬ op = 1) (n5 : ¬ op = 4) (n6 : ¬ op = 2) (n7 : ¬ op = 7) (n8 : ¬ op = 16) :
    Calls Try.prog 113 #[.agg #[.slice a1 n c1, .slice a2 m c2], .agg #[.int .i64 op, .int .i64 a, .int .i64 b, .string s]] w fun e w' => e = .returned (.bool (insM n m ⟨op, a, b, s⟩)) ∧ Below w.heap.size w w' := by
  unfold I64 at ha hb
  unfold I64 at ho
  have hL : insM n m ⟨op, a, b, s⟩ = (decide (1 ≤ op) && (decide (op ≤ 25) && ((a == 0) && ((b == 0) && s.toList.isEmpty)))) := by unfold insM; simp [hl, *, Bool.and_assoc]
  rw [hL]
  have m1 : (op == 20) = false := by simpa using n1
  have m2 : (op == 6) = false := by simpa using n2
  have m3 : (op == 15) = false := by simpa using n3
  have m4 : (op == 1) = false := by simpa using n4
  have m5 : (op == 4) = false := by simpa using n5
  have m6 : (op == 2) = false := by simpa using n6
  have m7 : (op == 7) = false := by simpa using n7
  have m8 : (op == 16) = false := by simpa using n8
  clear n1 n2 n3 n4 n5 n6 n7 n8
  go_enter Try.func113, Try.ntmps113
  go_wp2_with (first | (go_at_call 145; refine (impl_leads _ _).mono ?_; rintro e w' ⟨rfl, rfl⟩) | (go_at_call 80; refine (impl_within _ _ _ _).mono ?_; rintro e w' ⟨rfl, rfl⟩))
  all_goals
    go_ret
    refine ⟨ret_b ?_, (by first | exact (below_drewI ((by repeat (first | with_reducible exact Below.refl _ _ | with_reducible assumption | with_reducible refine Below.setCell ?_ ?_ _ | with_reducible refine Below.alloc ?_ ?_ _ | with_reducible refine Below.drew ?_ | (with_reducible apply below_chain; with_reducible assumption) | exact Nat.le_refl _ | omega | (simp <;> omega)))) _) | exact (by repeat (first | with_reducible exact Below.refl _ _ | with_reducible assumption | with_reducible refine Below.setCell ?_ ?_ _ | with_reducible refine Below.alloc ?_ ?_ _ | with_reducible refine Below.drew ?_ | (with_reducible apply below_chain; with_reducible assumption) | exact Nat.le_refl _ | omega | (simp <;> omega))))⟩
    try clear kc1 kf1 hb1
    first | (simp_all; done) | grind
end Go.Proofs.Ytbimnhbpcppfiaa
