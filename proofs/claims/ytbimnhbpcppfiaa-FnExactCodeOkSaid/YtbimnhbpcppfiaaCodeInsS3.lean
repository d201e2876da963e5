/- An instruction: the reference's text , whole. -/
import Derived.Test.YtbimnhbpcppfiaaCodeInsS1
import Derived.Test.YtbimnhbpcppfiaaCodeInsS2
import Derived.Laws.Cover3
namespace Go.Proofs.Ytbimnhbpcppfiaa
set_option linter.unusedVariables false
set_option linter.unusedSimpArgs false
open Go.RowKit
set_option maxRecDepth 100000 in
set_option maxHeartbeats 8000000 in
theorem spec_ins_op (w : World) (a1 a2 : Option Addr) (n c1 m c2 : Nat) (hn : n ≤ 1000000000) (hm : m ≤ 1000000000) (op : Int) (a b : Int) (s : ByteArray) (ha : I64 a) (hb : I64 b) (hsz : s.size ≤ maxLen) (ho : I64 op) (hl : leadsM op = false) (n1 : ¬ op = 20) (n2 : ¬ op = 6) (n3 : ¬ op = 15) (n4 : ¬ op = 1) (n5 : ¬ op = 4) (n6 : ¬ op = 2) (n7 : ¬ op = 7) (n8 : ¬ op = 16) :
    Calls Try.prog 106 #[.agg #[.slice a1 n c1, .slice a2 m c2], .agg #[.int .i64 op, .int .i64 a, .int .i64 b, .string s]] w fun e w' => e = .returned (.bool (insM n m ⟨op, a, b, s⟩)) ∧ Below w.heap.size w w' := by
  unfold I64 at ha hb
  unfold I64 at ho
  have hL : insM n m ⟨op, a, b, s⟩ = (decide (1 ≤ op) && (decide (op ≤ 25) && ((a == 0) && ((b == 0) && s.toList.isEmpty)))) := by unfold insM; simp [hl, *, Bool.and_assoc]
  rw [hL]
  unfold leadsM at hl
  simp only [Bool.or_eq_false_iff] at hl
  obtain ⟨⟨⟨⟨l1, l2⟩, l3⟩, l4⟩, l5⟩ := hl
  have m1 : (op == 20) = false := by simpa using n1
  have m2 : (op == 6) = false := by simpa using n2
  have m3 : (op == 15) = false := by simpa using n3
  have m4 : (op == 1) = false := by simpa using n4
  have m5 : (op == 4) = false := by simpa using n5
  have m6 : (op == 2) = false := by simpa using n6
  have m7 : (op == 7) = false := by simpa using n7
  have m8 : (op == 16) = false := by simpa using n8
  clear n1 n2 n3 n4 n5 n6 n7 n8 hL
  go_enter Try.func106, Try.ntmps106
  go_wp2_with fail
  all_goals
    go_ret
    refine ⟨ret_b ?_, (by first | exact (by repeat (first | with_reducible exact Below.refl _ _ | with_reducible assumption | with_reducible refine Below.setCell ?_ ?_ _ | with_reducible refine Below.alloc ?_ ?_ _ | with_reducible refine Below.drew ?_ | (with_reducible apply below_chain; with_reducible assumption) | exact Nat.le_refl _ | omega | (simp <;> omega))) | exact (below_drewI ((by repeat (first | with_reducible exact Below.refl _ _ | with_reducible assumption | with_reducible refine Below.setCell ?_ ?_ _ | with_reducible refine Below.alloc ?_ ?_ _ | with_reducible refine Below.drew ?_ | (with_reducible apply below_chain; with_reducible assumption) | exact Nat.le_refl _ | omega | (simp <;> omega)))) _))⟩
    first | (simp_all; done) | grind
theorem spec_l10InsOk (w : World) (a1 a2 : Option Addr) (n c1 m c2 : Nat) (hn : n ≤ 1000000000) (hm : m ≤ 1000000000) (x : DIns) (hx : insOk x) :
    Calls Try.prog 106 #[.agg #[.slice a1 n c1, .slice a2 m c2], .agg #[.int .i64 x.op, .int .i64 x.a, .int .i64 x.b, .string x.s]] w fun e w' => e = .returned (.bool (insM n m x)) ∧ Below w.heap.size w w' := by
  obtain ⟨op, a, b, s⟩ := x
  obtain ⟨ho, ha, hb, hsz⟩ := hx
  dsimp only at ho ha hb hsz ⊢
  cases hl : leadsM op
  · rcases (show op = 20 ∨ op = 6 ∨ op = 15 ∨ op = 1 ∨ op = 4 ∨ op = 2 ∨ op = 7 ∨ op = 16 ∨ (¬ op = 20 ∧ ¬ op = 6 ∧ ¬ op = 15 ∧ ¬ op = 1 ∧ ¬ op = 4 ∧ ¬ op = 2 ∧ ¬ op = 7 ∧ ¬ op = 16) by omega) with rfl | rfl | rfl | rfl | rfl | rfl | rfl | rfl | ⟨n1, n2, n3, n4, n5, n6, n7, n8⟩
    · exact spec_ins_20 w a1 a2 n c1 m c2 hn hm a b s ha hb hsz
    · exact spec_ins_6 w a1 a2 n c1 m c2 hn hm a b s ha hb hsz
    · exact spec_ins_15 w a1 a2 n c1 m c2 hn hm a b s ha hb hsz
    · exact spec_ins_1 w a1 a2 n c1 m c2 hn hm a b s ha hb hsz
    · exact spec_ins_4 w a1 a2 n c1 m c2 hn hm a b s ha hb hsz
    · exact spec_ins_2 w a1 a2 n c1 m c2 hn hm a b s ha hb hsz
    · exact spec_ins_7 w a1 a2 n c1 m c2 hn hm a b s ha hb hsz
    · exact spec_ins_16 w a1 a2 n c1 m c2 hn hm a b s ha hb hsz
    · exact spec_ins_op w a1 a2 n c1 m c2 hn hm op a b s ha hb hsz ho hl n1 n2 n3 n4 n5 n6 n7 n8
  · have h5 : op = 8 ∨ op = 9 ∨ op = 12 ∨ op = 13 ∨ op = 18 := by unfold leadsM at hl; simp only [Bool.or_eq_true, beq_iff_eq] at hl; omega
    rcases h5 with rfl | rfl | rfl | rfl | rfl
    · exact spec_ins_8 w a1 a2 n c1 m c2 hn hm a b s ha hb hsz
    · exact spec_ins_9 w a1 a2 n c1 m c2 hn hm a b s ha hb hsz
    · exact spec_ins_12 w a1 a2 n c1 m c2 hn hm a b s ha hb hsz
    · exact spec_ins_13 w a1 a2 n c1 m c2 hn hm a b s ha hb hsz
    · exact spec_ins_18 w a1 a2 n c1 m c2 hn hm a b s ha hb hsz
end Go.Proofs.Ytbimnhbpcppfiaa
