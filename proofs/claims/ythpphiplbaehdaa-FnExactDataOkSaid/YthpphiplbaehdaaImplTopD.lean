/- DataOk: the program's text, whole. -/
import Derived.Test.YthpphiplbaehdaaImplData
namespace Go.Proofs.Ythpphiplbaehdaa
set_option linter.unusedVariables false
set_option linter.unusedSimpArgs false
open Go.RowKit
def dataI (xs : List DDNode) : Bool := decide (1 ≤ xs.length) && decide (xs.length ≤ 600) && xs.all (dnodeM xs) && orderM (kidsOf xs)
set_option maxRecDepth 100000 in
set_option maxHeartbeats 2000000 in
theorem impl_DataOk (w : World) (h : Hp) (hs : Sub h w) (v : Value) (xs : List DDNode) (hv : DDNodeS h v xs) (hl : xs.length ≤ 1000000000) (hks : ∀ k (h : k < xs.length), xs[k].kids.length ≤ 1000000000) :
    Calls Try.prog 31 #[.agg #[v]] w fun e w' => e = .returned (.bool (dataI xs)) ∧ Below w.heap.size w w' := by
  have HV := Lib.hid hv
  obtain ⟨a, c, rfl, hc1, hc2, -⟩ := hv
  unfold maxLen at hc2
  have hbox := new_cell0 w (.slice a xs.length c) 52
  have hsub : Sub h (w.alloc (.cells #[.slice a xs.length c] 52)) := hs.alloc _
  have KO := Lib.hid (data_inOrder (w.alloc (.cells #[.slice a xs.length c] 52)) _ xs (HV.out.mono hsub.hle) hl hks w.heap.size hbox)
  by_cases h600 : 1 ≤ xs.length ∧ xs.length ≤ 600
  · obtain ⟨h6, h7⟩ := h600
    have i6 : (1 : Int) ≤ xs.length := by omega
    have i7 : (xs.length : Int) ≤ 600 := by omega
    have hM : dataI xs = (xs.all (dnodeM xs) && orderM (kidsOf xs)) := by unfold dataI; rw [decide_eq_true h6, decide_eq_true h7]; rfl
    rw [hM]
    clear hM
    cases ho : orderM (kidsOf xs)
    · rw [Bool.and_false]
      have HO := Lib.hid ho
      clear ho hbox
      go_enter Try.func31, Try.ntmps31
      go_wp2_with (first | (go_at_call 85; refine (impl_within _ _ _ _).mono ?_; rintro e w' ⟨rfl, rfl⟩))
      refine KO.out.mono ?_
      rw [HO.out]
      rintro e w1 ⟨rfl, hb1⟩
      go_wp2_with fail
      go_ret
      exact ⟨rfl, (by repeat (first | with_reducible exact Below.refl _ _ | with_reducible assumption | with_reducible refine Below.setCell ?_ ?_ _ | with_reducible refine Below.alloc ?_ ?_ _ | with_reducible refine Below.drew ?_ | (with_reducible apply below_chain; with_reducible assumption) | exact Nat.le_refl _ | omega | (simp <;> omega)))⟩
    · rw [Bool.and_true]
      have KC := Lib.hid (fun (w1 : World) (hs1 : Sub h w1) (hb : w1.cell? ⟨w.heap.size, 0, none⟩ = some (.slice a xs.length c)) => data_ContainsFunc w1 h hs1 _ xs HV.out hl hks w.heap.size hb ho)
      have HO := Lib.hid ho
      have HBox := Lib.hid hbox
      obtain ⟨bq, hbq⟩ : ∃ b, xs.all (dnodeM xs) = b := ⟨_, rfl⟩
      rw [hbq] at KC ⊢
      clear ho hbox hbq
      go_enter Try.func31, Try.ntmps31
      go_wp2_with (first | (go_at_call 85; refine (impl_within _ _ _ _).mono ?_; rintro e w' ⟨rfl, rfl⟩))
      refine KO.out.mono ?_
      rw [HO.out]
      rintro e w1 ⟨rfl, hb1⟩
      have kb := cell_kept hb1 HBox.out
      have s1 := hsub.below hb1
      have b1 : Below w.heap.size w w1 := below_chain hb1 ((Below.refl w.heap.size w).alloc (Nat.le_refl _) _) (by simp)
      go_wp2_with fail
      refine (KC.out w1 s1 kb).mono ?_
      rintro e w2 ⟨rfl, hb2⟩
      go_wp2_with fail
      go_ret
      exact ⟨ret_b (by cases bq <;> rfl), below_chain hb2 b1 b1.size⟩
  · have hM : dataI xs = false := by
      unfold dataI
      by_cases q : 1 ≤ xs.length
      · rw [decide_eq_false (p := xs.length ≤ 600) (fun q2 => h600 ⟨q, q2⟩)]; simp
      · rw [decide_eq_false q]; simp
    rw [hM]
    rcases (show xs.length = 0 ∨ 600 < xs.length by omega) with q | q
    · have q' : (xs.length : Int) = 0 := by omega
      clear hM h600 hbox KO
      go_enter Try.func31, Try.ntmps31
      go_wp2_with (first | (go_at_call 85; refine (impl_within _ _ _ _).mono ?_; rintro e w' ⟨rfl, rfl⟩))
      all_goals
        go_ret
        exact ⟨rfl, (by repeat (first | with_reducible exact Below.refl _ _ | with_reducible assumption | with_reducible refine Below.setCell ?_ ?_ _ | with_reducible refine Below.alloc ?_ ?_ _ | with_reducible refine Below.drew ?_ | (with_reducible apply below_chain; with_reducible assumption) | exact Nat.le_refl _ | omega | (simp <;> omega)))⟩
    · have q' : (600 : Int) < xs.length := by omega
      have q1 : (1 : Int) ≤ xs.length := by omega
      clear hM h600 hbox KO
      go_enter Try.func31, Try.ntmps31
      go_wp2_with (first | (go_at_call 85; refine (impl_within _ _ _ _).mono ?_; rintro e w' ⟨rfl, rfl⟩))
      all_goals
        go_ret
        exact ⟨rfl, (by repeat (first | with_reducible exact Below.refl _ _ | with_reducible assumption | with_reducible refine Below.setCell ?_ ?_ _ | with_reducible refine Below.alloc ?_ ?_ _ | with_reducible refine Below.drew ?_ | (with_reducible apply below_chain; with_reducible assumption) | exact Nat.le_refl _ | omega | (simp <;> omega)))⟩
end Go.Proofs.Ythpphiplbaehdaa
