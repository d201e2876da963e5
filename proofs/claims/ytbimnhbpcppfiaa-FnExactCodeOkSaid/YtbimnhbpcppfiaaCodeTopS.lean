/- CodeOk: the reference's text. -/
import Derived.Test.YtbimnhbpcppfiaaCodeTop
import Derived.Test.YtbimnhbpcppfiaaCodeInsS3
namespace Go.Proofs.Ytbimnhbpcppfiaa
set_option linter.unusedVariables false
set_option linter.unusedSimpArgs false
open Go.RowKit
theorem all_upto {α : Type} (p : α → Bool) (l : List α) (h : ∀ j (hj : j < l.length), p l[j] = true) : l.all p = true := by
  rw [List.all_eq_true]
  intro x hx
  obtain ⟨j, hj, rfl⟩ := List.getElem_of_mem hx
  exact h j hj
theorem all_not {α : Type} (p : α → Bool) (l : List α) (k : Nat) (hk : k < l.length) (h : p l[k] = false) : l.all p = false := by
  rw [List.all_eq_false]
  exact ⟨_, List.getElem_mem hk, by rw [h]; simp⟩
set_option maxRecDepth 100000 in
set_option maxHeartbeats 4000000 in
theorem spec_CodeOk (w : World) (h : Hp) (hs : Sub h w) (x : DCode) (v1 v2 : Value) (hv : codeRel h x v1 v2) (hf : codeFit x) :
    Calls Try.prog 42 #[.agg #[v1, v2]] w fun e w' => e = .returned (.bool (codeM x)) ∧ Below w.heap.size w w' := by
  obtain ⟨q1, q2⟩ := hv
  obtain ⟨f1, f2, f3⟩ := hf
  have hmi := Lib.hid (DInsS.mem q1)
  have HQ1 := Lib.hid q1
  have HQ2 := Lib.hid q2
  have F3 := Lib.hid f3
  obtain ⟨a1, c1, rfl, u1, u2, -⟩ := id q1
  obtain ⟨a2, c2, rfl, u3, u4, -⟩ := id q2
  unfold maxLen at u2 u4
  clear q1 q2 f3
  by_cases h1 : 1 ≤ x.ins.length ∧ x.ins.length ≤ 3000
  · obtain ⟨h2, h3⟩ := h1
    have i2 : ¬ (x.ins.length : Int) < 1 := by omega
    have i3 : ¬ (x.ins.length : Int) > 3000 := by omega
    have hR : codeM x = (x.pats.all patM && x.ins.all (insM x.ins.length x.pats.length)) := by unfold codeM; rw [decide_eq_true h2, decide_eq_true h3]; simp
    rw [hR]
    clear hR
    go_enter Try.func42, Try.ntmps42
    go_wp2_with fail
    generalize hW : w.alloc (.cells #[.slice a1 x.ins.length c1, .slice a2 x.pats.length c2] 73) = W0
    have d0 : W0.cell? ⟨w.heap.size, 0, none⟩ = some (.slice a1 x.ins.length c1) := by rw [← hW]; simp [new_cellN]
    have d1 : W0.cell? ⟨w.heap.size, 1, none⟩ = some (.slice a2 x.pats.length c2) := by rw [← hW]; simp [new_cellN]
    have s0 : Sub h W0 := by rw [← hW]; exact hs.alloc _
    have b0 : Below w.heap.size w W0 := by rw [← hW]; exact (by repeat (first | with_reducible exact Below.refl _ _ | with_reducible assumption | with_reducible refine Below.setCell ?_ ?_ _ | with_reducible refine Below.alloc ?_ ?_ _ | with_reducible refine Below.drew ?_ | (with_reducible apply below_chain; with_reducible assumption) | exact Nat.le_refl _ | omega | (simp <;> omega)))
    clear hW
    go_loopw [20] (fun i wr => ∃ k : Nat, k ≤ x.pats.length ∧ i = .int .i64 k ∧ (∀ j (hj : j < x.pats.length), j < k → patM x.pats[j] = true) ∧ Below W0.heap.size W0 wr) (fun i _ => x.pats.length - (intOf i).toNat)
    case atStart => exact ⟨0, by omega, rfl, fun _ _ q => by omega, Below.refl _ _⟩
    case round =>
      obtain ⟨k, hk, rfl, hall, hbel⟩ := hrel
      have HAll := Lib.hid hall
      have HB := Lib.hid hbel
      have hsub := s0.below hbel
      have e0 := cell_kept hbel d0
      have e1 := cell_kept hbel d1
      have hz := hbel.size
      clear hall hbel
      by_cases hlt : k < x.pats.length
      · obtain ⟨b, off, rfl, hcell⟩ := DPatS.cell HQ2.out hlt
        obtain ⟨v1, hrel, hcs⟩ := hcell k hlt
        obtain ⟨pa, pc, rfl, -⟩ := id hrel
        have c0 := hcs wr hsub
        have KK := Lib.hid (fun (wx : World) (hsx : Sub h wx) => spec_PatOk wx h hsx _ x.pats[k] hrel (F3.out k hlt).1 (F3.out k hlt).2)
        clear hcell hcs hrel
        cases hp : patM x.pats[k]
        · have HF := Lib.hid (all_not patM x.pats k hlt hp)
          have HP := Lib.hid hp
          clear hp
          go_wp2_with fail
          refine (KK.out _ (hsub.alloc _)).mono ?_
          rw [HP.out]
          rintro e w1 ⟨rfl, hb1⟩
          go_wp2_with fail
          go_ret
          refine ⟨ret_b (by rw [HF.out]; rfl), ?_⟩
          exact b0.trans ((HB.out.trans (((Below.refl wr.heap.size wr).alloc (Nat.le_refl _) _ |>.trans (hb1.mono (by simp))).mono hz)).mono b0.size)
        · have HP := Lib.hid hp
          clear hp
          go_wp2_with fail
          refine (KK.out _ (hsub.alloc _)).mono ?_
          rw [HP.out]
          rintro e w1 ⟨rfl, hb1⟩
          go_wp2_with fail
          refine ⟨⟨k + 1, by omega, by go_num, fun j hj hjk => ?_, ?_⟩, by simp [intOf]; omega⟩
          · rcases Nat.lt_or_ge j k with q | q
            · exact HAll.out j hj q
            · obtain rfl : j = k := by omega
              exact HP.out
          · exact HB.out.trans (((Below.refl wr.heap.size wr).alloc (Nat.le_refl _) _ |>.trans (hb1.mono (by simp))).mono hz)
      · have HF := Lib.hid (all_upto patM x.pats (fun j hj => HAll.out j hj (by omega)))
        have hb1 : Below w.heap.size w wr := b0.trans (HB.out.mono b0.size)
        have HFP := HF
        clear HB HAll HF
        go_wp2_with fail
        rename World => W1
        go_loopw [31] (fun i wr => ∃ k : Nat, k ≤ x.ins.length ∧ i = .int .i64 k ∧ (∀ j (hj : j < x.ins.length), j < k → insM x.ins.length x.pats.length x.ins[j] = true) ∧ Below W1.heap.size W1 wr) (fun i _ => x.ins.length - (intOf i).toNat)
        case atStart => exact ⟨0, by omega, rfl, fun _ _ q => by omega, Below.refl _ _⟩
        case round =>
          obtain ⟨k, hk, rfl, hall, hbel⟩ := hrel
          have HAll := Lib.hid hall
          have HB := Lib.hid hbel
          have hsub := hsub.below hbel
          have e0 := cell_kept hbel e0
          have e1 := cell_kept hbel e1
          have hz := hbel.size
          clear hall hbel
          have hlt0 : w.heap.size < wr.heap.size := World.block_lt_of_cell? _ _ e0
          by_cases hlt : k < x.ins.length
          · obtain ⟨b, off, rfl, hcell⟩ := DInsS.cell HQ1.out hlt
            obtain ⟨g0, g1, g2, g3⟩ := hcell k hlt wr hsub
            have KK := Lib.hid (fun (wx : World) => spec_l10InsOk wx (some ⟨b, off, none⟩) a2 _ c1 _ c2 f1 f2 x.ins[k] (hmi.out _ (List.getElem_mem hlt)))
            clear hcell
            cases hp : insM x.ins.length x.pats.length x.ins[k]
            · have HF := Lib.hid (all_not (insM x.ins.length x.pats.length) x.ins k hlt hp)
              have HP := Lib.hid hp
              clear hp
              go_wp2_with fail
              refine (KK.out _).mono ?_
              rw [HP.out]
              rintro e w1 ⟨rfl, hb2⟩
              go_wp2_with fail
              go_ret
              refine ⟨ret_b (by rw [HFP.out, HF.out]; rfl), ?_⟩
              exact hb1.trans ((HB.out.trans (((Below.refl wr.heap.size wr).alloc (Nat.le_refl _) _ |>.trans (hb2.mono (by simp))).mono hz)).mono hb1.size)
            · have HP := Lib.hid hp
              clear hp
              go_wp2_with fail
              refine (KK.out _).mono ?_
              rw [HP.out]
              rintro e w1 ⟨rfl, hb2⟩
              go_wp2_with fail
              refine ⟨⟨k + 1, by omega, by go_num, fun j hj hjk => ?_, ?_⟩, by simp [intOf]; omega⟩
              · rcases Nat.lt_or_ge j k with q | q
                · exact HAll.out j hj q
                · obtain rfl : j = k := by omega
                  exact HP.out
              · exact HB.out.trans (((Below.refl wr.heap.size wr).alloc (Nat.le_refl _) _ |>.trans (hb2.mono (by simp))).mono hz)
          · have HF := Lib.hid (all_upto (insM x.ins.length x.pats.length) x.ins (fun j hj => HAll.out j hj (by omega)))
            go_wp2_with fail
            go_ret
            exact ⟨ret_b (by rw [HFP.out, HF.out]; rfl), hb1.trans (HB.out.mono hb1.size)⟩
  · have hR : codeM x = false := by
      unfold codeM
      by_cases q : 1 ≤ x.ins.length
      · rw [decide_eq_false (p := x.ins.length ≤ 3000) (fun r => h1 ⟨q, r⟩)]; simp
      · rw [decide_eq_false q]; simp
    rw [hR]
    rcases (show x.ins.length = 0 ∨ 3000 < x.ins.length by omega) with q | q
    · have q' : (x.ins.length : Int) = 0 := by omega
      clear hR h1
      go_enter Try.func42, Try.ntmps42
      go_wp2_with fail
      all_goals
        go_ret
        exact ⟨rfl, (by repeat (first | with_reducible exact Below.refl _ _ | with_reducible assumption | with_reducible refine Below.setCell ?_ ?_ _ | with_reducible refine Below.alloc ?_ ?_ _ | with_reducible refine Below.drew ?_ | (with_reducible apply below_chain; with_reducible assumption) | exact Nat.le_refl _ | omega | (simp <;> omega)))⟩
    · have q' : (x.ins.length : Int) > 3000 := by omega
      have q1 : ¬ (x.ins.length : Int) < 1 := by omega
      clear hR h1
      go_enter Try.func42, Try.ntmps42
      go_wp2_with fail
      all_goals
        go_ret
        exact ⟨rfl, (by repeat (first | with_reducible exact Below.refl _ _ | with_reducible assumption | with_reducible refine Below.setCell ?_ ?_ _ | with_reducible refine Below.alloc ?_ ?_ _ | with_reducible refine Below.drew ?_ | (with_reducible apply below_chain; with_reducible assumption) | exact Nat.le_refl _ | omega | (simp <;> omega)))⟩
end Go.Proofs.Ytbimnhbpcppfiaa
