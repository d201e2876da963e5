/- An instruction: the reference's text (1). -/
import Derived.Test.YtbimnhbpcppfiaaCodeInsS
import Derived.Laws.Cover3
namespace Go.Proofs.Ytbimnhbpcppfiaa
set_option linter.unusedVariables false
set_option linter.unusedSimpArgs false
open Go.RowKit
set_option maxRecDepth 100000 in
set_option maxHeartbeats 8000000 in
theorem spec_ins_6 (w : World) (a1 a2 : Option Addr) (n c1 m c2 : Nat) (hn : n ≤ 1000000000) (hm : m ≤ 1000000000) (a b : Int) (s : ByteArray) (ha : I64 a) (hb : I64 b) (hsz : s.size ≤ maxLen) :
    Calls Try.prog 106 #[.agg #[.slice a1 n c1, .slice a2 m c2], .agg #[.int .i64 6, .int .i64 a, .int .i64 b, .string s]] w fun e w' => e = .returned (.bool (insM n m ⟨6, a, b, s⟩)) ∧ Below w.heap.size w w' := by
  unfold I64 at ha hb
  have hL : insM n m ⟨6, a, b, s⟩ = (decide (0 ≤ a) && (decide (a ≤ 3000) && ((b == 0) && s.toList.isEmpty))) := by unfold insM; simp [leadsM, Bool.and_assoc]
  rw [hL]
  clear hL
  go_enter Try.func106, Try.ntmps106
  go_wp2_with (first | fail)
  all_goals
    go_ret
    refine ⟨ret_b ?_, (by first | exact (by repeat (first | with_reducible exact Below.refl _ _ | with_reducible assumption | with_reducible refine Below.setCell ?_ ?_ _ | with_reducible refine Below.alloc ?_ ?_ _ | with_reducible refine Below.drew ?_ | (with_reducible apply below_chain; with_reducible assumption) | exact Nat.le_refl _ | omega | (simp <;> omega))) | exact (below_drewI ((by repeat (first | with_reducible exact Below.refl _ _ | with_reducible assumption | with_reducible refine Below.setCell ?_ ?_ _ | with_reducible refine Below.alloc ?_ ?_ _ | with_reducible refine Below.drew ?_ | (with_reducible apply below_chain; with_reducible assumption) | exact Nat.le_refl _ | omega | (simp <;> omega)))) _))⟩
    try clear kc1 kf1 hb1
    first | (simp_all; done) | grind
set_option maxRecDepth 100000 in
set_option maxHeartbeats 8000000 in
theorem spec_ins_15 (w : World) (a1 a2 : Option Addr) (n c1 m c2 : Nat) (hn : n ≤ 1000000000) (hm : m ≤ 1000000000) (a b : Int) (s : ByteArray) (ha : I64 a) (hb : I64 b) (hsz : s.size ≤ maxLen) :
    Calls Try.prog 106 #[.agg #[.slice a1 n c1, .slice a2 m c2], .agg #[.int .i64 15, .int .i64 a, .int .i64 b, .string s]] w fun e w' => e = .returned (.bool (insM n m ⟨15, a, b, s⟩)) ∧ Below w.heap.size w w' := by
  unfold I64 at ha hb
  have hL : insM n m ⟨15, a, b, s⟩ = (decide (0 ≤ a) && (decide (a ≤ 3000) && ((b == 0) && s.toList.isEmpty))) := by unfold insM; simp [leadsM, Bool.and_assoc]
  rw [hL]
  clear hL
  go_enter Try.func106, Try.ntmps106
  go_wp2_with (first | fail)
  all_goals
    go_ret
    refine ⟨ret_b ?_, (by first | exact (by repeat (first | with_reducible exact Below.refl _ _ | with_reducible assumption | with_reducible refine Below.setCell ?_ ?_ _ | with_reducible refine Below.alloc ?_ ?_ _ | with_reducible refine Below.drew ?_ | (with_reducible apply below_chain; with_reducible assumption) | exact Nat.le_refl _ | omega | (simp <;> omega))) | exact (below_drewI ((by repeat (first | with_reducible exact Below.refl _ _ | with_reducible assumption | with_reducible refine Below.setCell ?_ ?_ _ | with_reducible refine Below.alloc ?_ ?_ _ | with_reducible refine Below.drew ?_ | (with_reducible apply below_chain; with_reducible assumption) | exact Nat.le_refl _ | omega | (simp <;> omega)))) _))⟩
    try clear kc1 kf1 hb1
    first | (simp_all; done) | grind
set_option maxRecDepth 100000 in
set_option maxHeartbeats 8000000 in
theorem spec_ins_2 (w : World) (a1 a2 : Option Addr) (n c1 m c2 : Nat) (hn : n ≤ 1000000000) (hm : m ≤ 1000000000) (a b : Int) (s : ByteArray) (ha : I64 a) (hb : I64 b) (hsz : s.size ≤ maxLen) :
    Calls Try.prog 106 #[.agg #[.slice a1 n c1, .slice a2 m c2], .agg #[.int .i64 2, .int .i64 a, .int .i64 b, .string s]] w fun e w' => e = .returned (.bool (insM n m ⟨2, a, b, s⟩)) ∧ Below w.heap.size w w' := by
  unfold I64 at ha hb
  have hL : insM n m ⟨2, a, b, s⟩ = ((a == 0) && (b == 0)) := by unfold insM; simp [leadsM, Bool.and_assoc]
  rw [hL]
  clear hL
  go_enter Try.func106, Try.ntmps106
  go_wp2_with (first | fail)
  all_goals
    go_ret
    refine ⟨ret_b ?_, (by first | exact (by repeat (first | with_reducible exact Below.refl _ _ | with_reducible assumption | with_reducible refine Below.setCell ?_ ?_ _ | with_reducible refine Below.alloc ?_ ?_ _ | with_reducible refine Below.drew ?_ | (with_reducible apply below_chain; with_reducible assumption) | exact Nat.le_refl _ | omega | (simp <;> omega))) | exact (below_drewI ((by repeat (first | with_reducible exact Below.refl _ _ | with_reducible assumption | with_reducible refine Below.setCell ?_ ?_ _ | with_reducible refine Below.alloc ?_ ?_ _ | with_reducible refine Below.drew ?_ | (with_reducible apply below_chain; with_reducible assumption) | exact Nat.le_refl _ | omega | (simp <;> omega)))) _))⟩
    try clear kc1 kf1 hb1
    first | (simp_all; done) | grind
set_option maxRecDepth 100000 in
set_option maxHeartbeats 8000000 in
theorem spec_ins_7 (w : World) (a1 a2 : Option Addr) (n c1 m c2 : Nat) (hn : n ≤ 1000000000) (hm : m ≤ 1000000000) (a b : Int) (s : ByteArray) (ha : I64 a) (hb : I64 b) (hsz : s.size ≤ maxLen) :
    Calls Try.prog 106 #[.agg #[.slice a1 n c1, .slice a2 m c2], .agg #[.int .i64 7, .int .i64 a, .int .i64 b, .string s]] w fun e w' => e = .returned (.bool (insM n m ⟨7, a, b, s⟩)) ∧ Below w.heap.size w w' := by
  unfold I64 at ha hb
  have hL : insM n m ⟨7, a, b, s⟩ = ((a == 0) && ((b == 0) && givenM s)) := by unfold insM; simp [leadsM, Bool.and_assoc]
  rw [hL]
  clear hL
  go_enter Try.func106, Try.ntmps106
  go_wp2_with (first | fail)
  all_goals
    go_ret
    refine ⟨ret_b ?_, (by first | exact (by repeat (first | with_reducible exact Below.refl _ _ | with_reducible assumption | with_reducible refine Below.setCell ?_ ?_ _ | with_reducible refine Below.alloc ?_ ?_ _ | with_reducible refine Below.drew ?_ | (with_reducible apply below_chain; with_reducible assumption) | exact Nat.le_refl _ | omega | (simp <;> omega))) | exact (below_drewI ((by repeat (first | with_reducible exact Below.refl _ _ | with_reducible assumption | with_reducible refine Below.setCell ?_ ?_ _ | with_reducible refine Below.alloc ?_ ?_ _ | with_reducible refine Below.drew ?_ | (with_reducible apply below_chain; with_reducible assumption) | exact Nat.le_refl _ | omega | (simp <;> omega)))) _))⟩
    try clear kc1 kf1 hb1
    unfold givenM
    first | (simp_all; done) | grind
set_option maxRecDepth 100000 in
set_option maxHeartbeats 8000000 in
theorem spec_ins_16 (w : World) (a1 a2 : Option Addr) (n c1 m c2 : Nat) (hn : n ≤ 1000000000) (hm : m ≤ 1000000000) (a b : Int) (s : ByteArray) (ha : I64 a) (hb : I64 b) (hsz : s.size ≤ maxLen) :
    Calls Try.prog 106 #[.agg #[.slice a1 n c1, .slice a2 m c2], .agg #[.int .i64 16, .int .i64 a, .int .i64 b, .string s]] w fun e w' => e = .returned (.bool (insM n m ⟨16, a, b, s⟩)) ∧ Below w.heap.size w w' := by
  unfold I64 at ha hb
  have hL : insM n m ⟨16, a, b, s⟩ = ((a == 0) && ((b == 0) && inL s primL)) := by unfold insM; simp [leadsM, Bool.and_assoc]
  rw [hL]
  clear hL
  go_enter Try.func106, Try.ntmps106
  go_wp2_with (first | (go_at_call 178; refine (spec_l04Prim _ _).mono ?_; rintro e w1 ⟨rfl, hb1⟩; obtain ⟨kc1, kf1⟩ := bcell hb1; have kz1 := hb1.size; (try simp at kz1); (first | (refine (fun (kw1_0 : w.heap.size  < w1.heap.size) => ?_) ?_; rotate_left; omega) | skip); (first | (refine (fun (kw1_1 : w.heap.size + 1 < w1.heap.size) => ?_) ?_; rotate_left; omega) | skip); (first | (refine (fun (kw1_2 : w.heap.size + 1 + 1 < w1.heap.size) => ?_) ?_; rotate_left; omega) | skip)) | fail)
  all_goals
    go_ret
    refine ⟨ret_b ?_, (by first | exact (by repeat (first | with_reducible exact Below.refl _ _ | with_reducible assumption | with_reducible refine Below.setCell ?_ ?_ _ | with_reducible refine Below.alloc ?_ ?_ _ | with_reducible refine Below.drew ?_ | (with_reducible apply below_chain; with_reducible assumption) | exact Nat.le_refl _ | omega | (simp <;> omega))) | exact (below_drewI ((by repeat (first | with_reducible exact Below.refl _ _ | with_reducible assumption | with_reducible refine Below.setCell ?_ ?_ _ | with_reducible refine Below.alloc ?_ ?_ _ | with_reducible refine Below.drew ?_ | (with_reducible apply below_chain; with_reducible assumption) | exact Nat.le_refl _ | omega | (simp <;> omega)))) _))⟩
    try clear kc1 kf1 hb1
    first | (simp_all; done) | grind
set_option maxRecDepth 100000 in
set_option maxHeartbeats 8000000 in
theorem spec_ins_1 (w : World) (a1 a2 : Option Addr) (n c1 m c2 : Nat) (hn : n ≤ 1000000000) (hm : m ≤ 1000000000) (a b : Int) (s : ByteArray) (ha : I64 a) (hb : I64 b) (hsz : s.size ≤ maxLen) :
    Calls Try.prog 106 #[.agg #[.slice a1 n c1, .slice a2 m c2], .agg #[.int .i64 1, .int .i64 a, .int .i64 b, .string s]] w fun e w' => e = .returned (.bool (insM n m ⟨1, a, b, s⟩)) ∧ Below w.heap.size w w' := by
  unfold I64 at ha hb
  have hL : insM n m ⟨1, a, b, s⟩ = ((wrap63 a == a) && ((b == 0) && s.toList.isEmpty)) := by rw [wrap_self]; unfold insM; simp [leadsM, Bool.and_assoc]
  rw [hL]
  clear hL
  have hw := wrap63_bd a
  generalize hz : wrap63 a = z at hw
  have HZ := Lib.hid hz
  clear hz
  go_enter Try.func106, Try.ntmps106
  go_wp2_with fail
  go_quiet (first | (go_at_call 175; refine Calls.quiet_of_same ((spec_Wrap _ _).mono fun _ _ q => ⟨q.1, q.2.symm⟩)))
  try rw [HZ.out]
  go_wp2_with fail
  all_goals
    go_ret
    refine ⟨ret_b ?_, below_drewI ((by repeat (first | with_reducible exact Below.refl _ _ | with_reducible assumption | with_reducible refine Below.setCell ?_ ?_ _ | with_reducible refine Below.alloc ?_ ?_ _ | with_reducible refine Below.drew ?_ | (with_reducible apply below_chain; with_reducible assumption) | exact Nat.le_refl _ | omega | (simp <;> omega)))) _⟩
    first | (simp_all; done) | grind
end Go.Proofs.Ytbimnhbpcppfiaa
