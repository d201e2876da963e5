/- An instruction: the reference's text (2). -/
import Derived.Test.YtbimnhbpcppfiaaCodeInsS
import Derived.Laws.Cover3
namespace Go.Proofs.Ytbimnhbpcppfiaa
set_option linter.unusedVariables false
set_option linter.unusedSimpArgs false
open Go.RowKit
set_option maxRecDepth 100000 in
set_option maxHeartbeats 8000000 in
theorem spec_ins_4 (w : World) (a1 a2 : Option Addr) (n c1 m c2 : Nat) (hn : n ≤ 1000000000) (hm : m ≤ 1000000000) (a b : Int) (s : ByteArray) (ha : I64 a) (hb : I64 b) (hsz : s.size ≤ maxLen) :
    Calls Try.prog 106 #[.agg #[.slice a1 n c1, .slice a2 m c2], .agg #[.int .i64 4, .int .i64 a, .int .i64 b, .string s]] w fun e w' => e = .returned (.bool (insM n m ⟨4, a, b, s⟩)) ∧ Below w.heap.size w w' := by
  unfold I64 at ha hb
  have hL : insM n m ⟨4, a, b, s⟩ = (decide (0 ≤ a) && (decide (a ≤ 1) && ((b == 0) && shapeM s a.toNat true))) := by unfold insM; simp [leadsM, Bool.and_assoc]
  rw [hL]
  by_cases ha0 : 0 ≤ a
  · obtain ⟨k, rfl⟩ : ∃ k : Nat, a = (k : Int) := ⟨a.toNat, by omega⟩
    rw [Int.toNat_natCast]
    clear hL
    generalize hq : shapeM s k true = q
    have HQ := Lib.hid (fun (wx : World) => spec_l04ConOk wx s hsz k true)
    rw [hq] at HQ
    clear hq
    cases q
    all_goals
      rcases (show k = 0 ∨ k = 1 ∨ 2 ≤ k by omega) with rfl | rfl | hk
      · go_enter Try.func106, Try.ntmps106
        go_wp2_with (first | (go_at_call 176; refine (HQ.out _).mono ?_; rintro e w1 ⟨rfl, rfl⟩) | fail)
        all_goals
          go_ret
          refine ⟨ret_b ?_, (by first | exact (by repeat (first | with_reducible exact Below.refl _ _ | with_reducible assumption | with_reducible refine Below.setCell ?_ ?_ _ | with_reducible refine Below.alloc ?_ ?_ _ | with_reducible refine Below.drew ?_ | (with_reducible apply below_chain; with_reducible assumption) | exact Nat.le_refl _ | omega | (simp <;> omega))) | exact (below_drewI ((by repeat (first | with_reducible exact Below.refl _ _ | with_reducible assumption | with_reducible refine Below.setCell ?_ ?_ _ | with_reducible refine Below.alloc ?_ ?_ _ | with_reducible refine Below.drew ?_ | (with_reducible apply below_chain; with_reducible assumption) | exact Nat.le_refl _ | omega | (simp <;> omega)))) _))⟩
          clear HQ
          first | (simp_all; done) | grind
      · go_enter Try.func106, Try.ntmps106
        go_wp2_with (first | (go_at_call 176; refine (HQ.out _).mono ?_; rintro e w1 ⟨rfl, rfl⟩) | fail)
        all_goals
          go_ret
          refine ⟨ret_b ?_, (by first | exact (by repeat (first | with_reducible exact Below.refl _ _ | with_reducible assumption | with_reducible refine Below.setCell ?_ ?_ _ | with_reducible refine Below.alloc ?_ ?_ _ | with_reducible refine Below.drew ?_ | (with_reducible apply below_chain; with_reducible assumption) | exact Nat.le_refl _ | omega | (simp <;> omega))) | exact (below_drewI ((by repeat (first | with_reducible exact Below.refl _ _ | with_reducible assumption | with_reducible refine Below.setCell ?_ ?_ _ | with_reducible refine Below.alloc ?_ ?_ _ | with_reducible refine Below.drew ?_ | (with_reducible apply below_chain; with_reducible assumption) | exact Nat.le_refl _ | omega | (simp <;> omega)))) _))⟩
          clear HQ
          first | (simp_all; done) | grind
      · have k0 : ((k : Int) == 0) = false := by simp; omega
        have k1 : ((k : Int) == 1) = false := by simp; omega
        have k2 : decide ((k : Int) ≤ 1) = false := by simp; omega
        rw [k2]
        clear k2
        go_enter Try.func106, Try.ntmps106
        go_wp2_with (first | (go_at_call 176; refine (HQ.out _).mono ?_; rintro e w1 ⟨rfl, rfl⟩) | fail)
        all_goals
          go_ret
          refine ⟨ret_b ?_, (by first | exact (by repeat (first | with_reducible exact Below.refl _ _ | with_reducible assumption | with_reducible refine Below.setCell ?_ ?_ _ | with_reducible refine Below.alloc ?_ ?_ _ | with_reducible refine Below.drew ?_ | (with_reducible apply below_chain; with_reducible assumption) | exact Nat.le_refl _ | omega | (simp <;> omega))) | exact (below_drewI ((by repeat (first | with_reducible exact Below.refl _ _ | with_reducible assumption | with_reducible refine Below.setCell ?_ ?_ _ | with_reducible refine Below.alloc ?_ ?_ _ | with_reducible refine Below.drew ?_ | (with_reducible apply below_chain; with_reducible assumption) | exact Nat.le_refl _ | omega | (simp <;> omega)))) _))⟩
          clear HQ
          first | (simp_all; done) | grind
  · have e0 : decide (0 ≤ a) = false := decide_eq_false ha0
    rw [e0]
    have a1 : ¬ a = 0 := by omega
    have a2 : ¬ a = 1 := by omega
    clear hL
    go_enter Try.func106, Try.ntmps106
    go_wp2_with (first | (go_at_call 176; refine (spec_l04ConOk_any _ s hsz a true).mono ?_; rintro e w1 ⟨⟨bq, rfl⟩, rfl⟩) | fail)
    all_goals
      go_ret
      refine ⟨ret_b ?_, (by first | exact (by repeat (first | with_reducible exact Below.refl _ _ | with_reducible assumption | with_reducible refine Below.setCell ?_ ?_ _ | with_reducible refine Below.alloc ?_ ?_ _ | with_reducible refine Below.drew ?_ | (with_reducible apply below_chain; with_reducible assumption) | exact Nat.le_refl _ | omega | (simp <;> omega))) | exact (below_drewI ((by repeat (first | with_reducible exact Below.refl _ _ | with_reducible assumption | with_reducible refine Below.setCell ?_ ?_ _ | with_reducible refine Below.alloc ?_ ?_ _ | with_reducible refine Below.drew ?_ | (with_reducible apply below_chain; with_reducible assumption) | exact Nat.le_refl _ | omega | (simp <;> omega)))) _))⟩
      first | (simp_all; done) | grind
set_option maxRecDepth 100000 in
set_option maxHeartbeats 8000000 in
theorem spec_ins_20 (w : World) (a1 a2 : Option Addr) (n c1 m c2 : Nat) (hn : n ≤ 1000000000) (hm : m ≤ 1000000000) (a b : Int) (s : ByteArray) (ha : I64 a) (hb : I64 b) (hsz : s.size ≤ maxLen) :
    Calls Try.prog 106 #[.agg #[.slice a1 n c1, .slice a2 m c2], .agg #[.int .i64 20, .int .i64 a, .int .i64 b, .string s]] w fun e w' => e = .returned (.bool (insM n m ⟨20, a, b, s⟩)) ∧ Below w.heap.size w w' := by
  unfold I64 at ha hb
  have hL : insM n m ⟨20, a, b, s⟩ = (decide (0 ≤ a) && decide (a < m) && (decide (0 ≤ b) && decide (b < n)) && s.toList.isEmpty) := by unfold insM; simp [leadsM]
  rw [hL]
  clear hL
  go_enter Try.func106, Try.ntmps106
  go_wp2_with (first | (go_at_call 177; refine (spec_l10Place _ _ _ _ _ _).mono ?_; rintro e w1 ⟨rfl, hb1⟩; obtain ⟨kc1, kf1⟩ := bcell hb1; have kz1 := hb1.size; (try simp at kz1); (first | (refine (fun (kw1_0 : w.heap.size  < w1.heap.size) => ?_) ?_; rotate_left; omega) | skip); (first | (refine (fun (kw1_1 : w.heap.size + 1 < w1.heap.size) => ?_) ?_; rotate_left; omega) | skip); (first | (refine (fun (kw1_2 : w.heap.size + 1 + 1 < w1.heap.size) => ?_) ?_; rotate_left; omega) | skip)) | fail)
  all_goals
    go_ret
    refine ⟨ret_b ?_, (by first | exact (by repeat (first | with_reducible exact Below.refl _ _ | with_reducible assumption | with_reducible refine Below.setCell ?_ ?_ _ | with_reducible refine Below.alloc ?_ ?_ _ | with_reducible refine Below.drew ?_ | (with_reducible apply below_chain; with_reducible assumption) | exact Nat.le_refl _ | omega | (simp <;> omega))) | exact (below_drewI ((by repeat (first | with_reducible exact Below.refl _ _ | with_reducible assumption | with_reducible refine Below.setCell ?_ ?_ _ | with_reducible refine Below.alloc ?_ ?_ _ | with_reducible refine Below.drew ?_ | (with_reducible apply below_chain; with_reducible assumption) | exact Nat.le_refl _ | omega | (simp <;> omega)))) _))⟩
    try clear kc1 kf1 hb1
    first | (simp_all; done) | grind
set_option maxRecDepth 100000 in
set_option maxHeartbeats 8000000 in
theorem spec_ins_8 (w : World) (a1 a2 : Option Addr) (n c1 m c2 : Nat) (hn : n ≤ 1000000000) (hm : m ≤ 1000000000) (a b : Int) (s : ByteArray) (ha : I64 a) (hb : I64 b) (hsz : s.size ≤ maxLen) :
    Calls Try.prog 106 #[.agg #[.slice a1 n c1, .slice a2 m c2], .agg #[.int .i64 8, .int .i64 a, .int .i64 b, .string s]] w fun e w' => e = .returned (.bool (insM n m ⟨8, a, b, s⟩)) ∧ Below w.heap.size w w' := by
  unfold I64 at ha hb
  have hL : insM n m ⟨8, a, b, s⟩ = (decide (0 ≤ a) && (decide (a < n) && ((b == 0) && s.toList.isEmpty))) := by unfold insM; simp [leadsM, Bool.and_assoc]
  rw [hL]
  clear hL
  go_enter Try.func106, Try.ntmps106
  go_wp2_with (first | (go_at_call 177; refine (spec_l10Place _ _ _ _ _ _).mono ?_; rintro e w1 ⟨rfl, hb1⟩; obtain ⟨kc1, kf1⟩ := bcell hb1; have kz1 := hb1.size; (try simp at kz1); (first | (refine (fun (kw1_0 : w.heap.size  < w1.heap.size) => ?_) ?_; rotate_left; omega) | skip); (first | (refine (fun (kw1_1 : w.heap.size + 1 < w1.heap.size) => ?_) ?_; rotate_left; omega) | skip); (first | (refine (fun (kw1_2 : w.heap.size + 1 + 1 < w1.heap.size) => ?_) ?_; rotate_left; omega) | skip)) | fail)
  all_goals
    go_ret
    refine ⟨ret_b ?_, (by first | exact (by repeat (first | with_reducible exact Below.refl _ _ | with_reducible assumption | with_reducible refine Below.setCell ?_ ?_ _ | with_reducible refine Below.alloc ?_ ?_ _ | with_reducible refine Below.drew ?_ | (with_reducible apply below_chain; with_reducible assumption) | exact Nat.le_refl _ | omega | (simp <;> omega))) | exact (below_drewI ((by repeat (first | with_reducible exact Below.refl _ _ | with_reducible assumption | with_reducible refine Below.setCell ?_ ?_ _ | with_reducible refine Below.alloc ?_ ?_ _ | with_reducible refine Below.drew ?_ | (with_reducible apply below_chain; with_reducible assumption) | exact Nat.le_refl _ | omega | (simp <;> omega)))) _))⟩
    try clear kc1 kf1 hb1
    first | (simp_all; done) | grind
set_option maxRecDepth 100000 in
set_option maxHeartbeats 8000000 in
theorem spec_ins_9 (w : World) (a1 a2 : Option Addr) (n c1 m c2 : Nat) (hn : n ≤ 1000000000) (hm : m ≤ 1000000000) (a b : Int) (s : ByteArray) (ha : I64 a) (hb : I64 b) (hsz : s.size ≤ maxLen) :
    Calls Try.prog 106 #[.agg #[.slice a1 n c1, .slice a2 m c2], .agg #[.int .i64 9, .int .i64 a, .int .i64 b, .string s]] w fun e w' => e = .returned (.bool (insM n m ⟨9, a, b, s⟩)) ∧ Below w.heap.size w w' := by
  unfold I64 at ha hb
  have hL : insM n m ⟨9, a, b, s⟩ = (decide (0 ≤ a) && (decide (a < n) && ((b == 0) && s.toList.isEmpty))) := by unfold insM; simp [leadsM, Bool.and_assoc]
  rw [hL]
  clear hL
  go_enter Try.func106, Try.ntmps106
  go_wp2_with (first | (go_at_call 177; refine (spec_l10Place _ _ _ _ _ _).mono ?_; rintro e w1 ⟨rfl, hb1⟩; obtain ⟨kc1, kf1⟩ := bcell hb1; have kz1 := hb1.size; (try simp at kz1); (first | (refine (fun (kw1_0 : w.heap.size  < w1.heap.size) => ?_) ?_; rotate_left; omega) | skip); (first | (refine (fun (kw1_1 : w.heap.size + 1 < w1.heap.size) => ?_) ?_; rotate_left; omega) | skip); (first | (refine (fun (kw1_2 : w.heap.size + 1 + 1 < w1.heap.size) => ?_) ?_; rotate_left; omega) | skip)) | fail)
  all_goals
    go_ret
    refine ⟨ret_b ?_, (by first | exact (by repeat (first | with_reducible exact Below.refl _ _ | with_reducible assumption | with_reducible refine Below.setCell ?_ ?_ _ | with_reducible refine Below.alloc ?_ ?_ _ | with_reducible refine Below.drew ?_ | (with_reducible apply below_chain; with_reducible assumption) | exact Nat.le_refl _ | omega | (simp <;> omega))) | exact (below_drewI ((by repeat (first | with_reducible exact Below.refl _ _ | with_reducible assumption | with_reducible refine Below.setCell ?_ ?_ _ | with_reducible refine Below.alloc ?_ ?_ _ | with_reducible refine Below.drew ?_ | (with_reducible apply below_chain; with_reducible assumption) | exact Nat.le_refl _ | omega | (simp <;> omega)))) _))⟩
    try clear kc1 kf1 hb1
    first | (simp_all; done) | grind
set_option maxRecDepth 100000 in
set_option maxHeartbeats 8000000 in
theorem spec_ins_12 (w : World) (a1 a2 : Option Addr) (n c1 m c2 : Nat) (hn : n ≤ 1000000000) (hm : m ≤ 1000000000) (a b : Int) (s : ByteArray) (ha : I64 a) (hb : I64 b) (hsz : s.size ≤ maxLen) :
    Calls Try.prog 106 #[.agg #[.slice a1 n c1, .slice a2 m c2], .agg #[.int .i64 12, .int .i64 a, .int .i64 b, .string s]] w fun e w' => e = .returned (.bool (insM n m ⟨12, a, b, s⟩)) ∧ Below w.heap.size w w' := by
  unfold I64 at ha hb
  have hL : insM n m ⟨12, a, b, s⟩ = (decide (0 ≤ a) && (decide (a < n) && ((b == 0) && s.toList.isEmpty))) := by unfold insM; simp [leadsM, Bool.and_assoc]
  rw [hL]
  clear hL
  go_enter Try.func106, Try.ntmps106
  go_wp2_with (first | (go_at_call 177; refine (spec_l10Place _ _ _ _ _ _).mono ?_; rintro e w1 ⟨rfl, hb1⟩; obtain ⟨kc1, kf1⟩ := bcell hb1; have kz1 := hb1.size; (try simp at kz1); (first | (refine (fun (kw1_0 : w.heap.size  < w1.heap.size) => ?_) ?_; rotate_left; omega) | skip); (first | (refine (fun (kw1_1 : w.heap.size + 1 < w1.heap.size) => ?_) ?_; rotate_left; omega) | skip); (first | (refine (fun (kw1_2 : w.heap.size + 1 + 1 < w1.heap.size) => ?_) ?_; rotate_left; omega) | skip)) | fail)
  all_goals
    go_ret
    refine ⟨ret_b ?_, (by first | exact (by repeat (first | with_reducible exact Below.refl _ _ | with_reducible assumption | with_reducible refine Below.setCell ?_ ?_ _ | with_reducible refine Below.alloc ?_ ?_ _ | with_reducible refine Below.drew ?_ | (with_reducible apply below_chain; with_reducible assumption) | exact Nat.le_refl _ | omega | (simp <;> omega))) | exact (below_drewI ((by repeat (first | with_reducible exact Below.refl _ _ | with_reducible assumption | with_reducible refine Below.setCell ?_ ?_ _ | with_reducible refine Below.alloc ?_ ?_ _ | with_reducible refine Below.drew ?_ | (with_reducible apply below_chain; with_reducible assumption) | exact Nat.le_refl _ | omega | (simp <;> omega)))) _))⟩
    try clear kc1 kf1 hb1
    first | (simp_all; done) | grind
set_option maxRecDepth 100000 in
set_option maxHeartbeats 8000000 in
theorem spec_ins_13 (w : World) (a1 a2 : Option Addr) (n c1 m c2 : Nat) (hn : n ≤ 1000000000) (hm : m ≤ 1000000000) (a b : Int) (s : ByteArray) (ha : I64 a) (hb : I64 b) (hsz : s.size ≤ maxLen) :
    Calls Try.prog 106 #[.agg #[.slice a1 n c1, .slice a2 m c2], .agg #[.int .i64 13, .int .i64 a, .int .i64 b, .string s]] w fun e w' => e = .returned (.bool (insM n m ⟨13, a, b, s⟩)) ∧ Below w.heap.size w w' := by
  unfold I64 at ha hb
  have hL : insM n m ⟨13, a, b, s⟩ = (decide (0 ≤ a) && (decide (a < n) && ((b == 0) && s.toList.isEmpty))) := by unfold insM; simp [leadsM, Bool.and_assoc]
  rw [hL]
  clear hL
  go_enter Try.func106, Try.ntmps106
  go_wp2_with (first | (go_at_call 177; refine (spec_l10Place _ _ _ _ _ _).mono ?_; rintro e w1 ⟨rfl, hb1⟩; obtain ⟨kc1, kf1⟩ := bcell hb1; have kz1 := hb1.size; (try simp at kz1); (first | (refine (fun (kw1_0 : w.heap.size  < w1.heap.size) => ?_) ?_; rotate_left; omega) | skip); (first | (refine (fun (kw1_1 : w.heap.size + 1 < w1.heap.size) => ?_) ?_; rotate_left; omega) | skip); (first | (refine (fun (kw1_2 : w.heap.size + 1 + 1 < w1.heap.size) => ?_) ?_; rotate_left; omega) | skip)) | fail)
  all_goals
    go_ret
    refine ⟨ret_b ?_, (by first | exact (by repeat (first | with_reducible exact Below.refl _ _ | with_reducible assumption | with_reducible refine Below.setCell ?_ ?_ _ | with_reducible refine Below.alloc ?_ ?_ _ | with_reducible refine Below.drew ?_ | (with_reducible apply below_chain; with_reducible assumption) | exact Nat.le_refl _ | omega | (simp <;> omega))) | exact (below_drewI ((by repeat (first | with_reducible exact Below.refl _ _ | with_reducible assumption | with_reducible refine Below.setCell ?_ ?_ _ | with_reducible refine Below.alloc ?_ ?_ _ | with_reducible refine Below.drew ?_ | (with_reducible apply below_chain; with_reducible assumption) | exact Nat.le_refl _ | omega | (simp <;> omega)))) _))⟩
    try clear kc1 kf1 hb1
    first | (simp_all; done) | grind
set_option maxRecDepth 100000 in
set_option maxHeartbeats 8000000 in
theorem spec_ins_18 (w : World) (a1 a2 : Option Addr) (n c1 m c2 : Nat) (hn : n ≤ 1000000000) (hm : m ≤ 1000000000) (a b : Int) (s : ByteArray) (ha : I64 a) (hb : I64 b) (hsz : s.size ≤ maxLen) :
    Calls Try.prog 106 #[.agg #[.slice a1 n c1, .slice a2 m c2], .agg #[.int .i64 18, .int .i64 a, .int .i64 b, .string s]] w fun e w' => e = .returned (.bool (insM n m ⟨18, a, b, s⟩)) ∧ Below w.heap.size w w' := by
  unfold I64 at ha hb
  have hL : insM n m ⟨18, a, b, s⟩ = (decide (0 ≤ a) && (decide (a < n) && ((b == 0) && s.toList.isEmpty))) := by unfold insM; simp [leadsM, Bool.and_assoc]
  rw [hL]
  clear hL
  go_enter Try.func106, Try.ntmps106
  go_wp2_with (first | (go_at_call 177; refine (spec_l10Place _ _ _ _ _ _).mono ?_; rintro e w1 ⟨rfl, hb1⟩; obtain ⟨kc1, kf1⟩ := bcell hb1; have kz1 := hb1.size; (try simp at kz1); (first | (refine (fun (kw1_0 : w.heap.size  < w1.heap.size) => ?_) ?_; rotate_left; omega) | skip); (first | (refine (fun (kw1_1 : w.heap.size + 1 < w1.heap.size) => ?_) ?_; rotate_left; omega) | skip); (first | (refine (fun (kw1_2 : w.heap.size + 1 + 1 < w1.heap.size) => ?_) ?_; rotate_left; omega) | skip)) | fail)
  all_goals
    go_ret
    refine ⟨ret_b ?_, (by first | exact (by repeat (first | with_reducible exact Below.refl _ _ | with_reducible assumption | with_reducible refine Below.setCell ?_ ?_ _ | with_reducible refine Below.alloc ?_ ?_ _ | with_reducible refine Below.drew ?_ | (with_reducible apply below_chain; with_reducible assumption) | exact Nat.le_refl _ | omega | (simp <;> omega))) | exact (below_drewI ((by repeat (first | with_reducible exact Below.refl _ _ | with_reducible assumption | with_reducible refine Below.setCell ?_ ?_ _ | with_reducible refine Below.alloc ?_ ?_ _ | with_reducible refine Below.drew ?_ | (with_reducible apply below_chain; with_reducible assumption) | exact Nat.le_refl _ | omega | (simp <;> omega)))) _))⟩
    try clear kc1 kf1 hb1
    first | (simp_all; done) | grind
end Go.Proofs.Ytbimnhbpcppfiaa
