/- TyOk of both texts, whole. -/
import Derived.Test.YtmopjpnghomdfaaTyOk
import Derived.Test.YtmopjpnghomdfaaTyEnd
namespace Go.Proofs.Ytmopjpnghomdfaa
set_option linter.unusedVariables false
set_option linter.unusedSimpArgs false
open Go.RowKit Go.ChangeShapes Go.WideShapes
theorem impl_TyOk (w : World) (h : Hp) (hs : Sub h w) (v : Value) (xs : List TyI) (hv : TyS h v xs) (hl : xs.length ≤ 1000000000) :
    Calls Try.prog 40 #[.agg #[v]] w fun e w' => e = .returned (.bool (tyOkM xs)) ∧ Below w.heap.size w w' := by
  have HV := Lib.hid hv
  obtain ⟨a, c, rfl, hc1, hc2, -⟩ := hv
  unfold maxLen at hc2
  obtain ⟨b, hb⟩ : ∃ b, tyItemsM xs = b := ⟨_, rfl⟩
  have hk := fun (w : World) (hs : Sub h w) => impl_tyOk w h hs _ xs HV.out hl
  by_cases h200 : xs.length ≤ 200
  · have h2 : (xs.length : Int) ≤ 200 := by omega
    have HA : tyOkM xs = b := by unfold tyOkM; rw [hb, decide_eq_true h200]; rfl
    rw [HA]
    rw [hb] at hk
    have HK := Lib.hid hk
    clear hk HA hb
    go_enter Try.func40, Try.ntmps40
    go_wp2_with (first | (go_at_call 75; refine (HK.out _ (hs.alloc _)).mono ?_; rintro e w1 ⟨rfl, hb1⟩; obtain ⟨kc1, kf1⟩ := bcell hb1; have kz1 := hb1.size; (try simp at kz1); (first | (refine (fun (kw1_0 : w.heap.size  < w1.heap.size) => ?_) ?_; rotate_left; omega) | skip); (first | (refine (fun (kw1_1 : w.heap.size + 1 < w1.heap.size) => ?_) ?_; rotate_left; omega) | skip); (first | (refine (fun (kw1_2 : w.heap.size + 1 + 1 < w1.heap.size) => ?_) ?_; rotate_left; omega) | skip)))
    go_ret
    exact ⟨rfl, (by repeat (first | with_reducible exact Below.refl _ _ | with_reducible assumption | with_reducible refine Below.setCell ?_ ?_ _ | with_reducible refine Below.alloc ?_ ?_ _ | with_reducible refine Below.drew ?_ | (with_reducible apply below_chain; with_reducible assumption) | exact Nat.le_refl _ | omega | (simp <;> omega)))⟩
  · have h2 : ¬ (xs.length : Int) ≤ 200 := by omega
    have HA : tyOkM xs = false := by unfold tyOkM; rw [decide_eq_false h200]; rfl
    rw [HA]
    clear hk HA hb
    go_enter Try.func40, Try.ntmps40
    go_wp2
    go_ret
    exact ⟨rfl, (by repeat (first | with_reducible exact Below.refl _ _ | with_reducible assumption | with_reducible refine Below.setCell ?_ ?_ _ | with_reducible refine Below.alloc ?_ ?_ _ | with_reducible refine Below.drew ?_ | (with_reducible apply below_chain; with_reducible assumption) | exact Nat.le_refl _ | omega | (simp <;> omega)))⟩
theorem items_ar {xs : List TyI} (h : xs.all itemM = true) : ∀ x ∈ xs, 0 ≤ x.ar ∧ x.ar ≤ 2 := fun x hx => itemM_ar (List.all_eq_true.1 h x hx)
theorem all_false {xs : List TyI} {k : Nat} (h : k < xs.length) (hb : itemM xs[k] = false) : tyOkM xs = false := by
  have : xs.all itemM = false := by
    rw [List.all_eq_false]
    exact ⟨_, List.getElem_mem h, by simp [hb]⟩
  unfold tyOkM tyItemsM
  rw [this]; simp
theorem all_take_succ {xs : List TyI} {k : Nat} (h : k < xs.length) (ha : (xs.take k).all itemM = true) (hb : itemM xs[k] = true) : (xs.take (k + 1)).all itemM = true := by
  rw [List.take_succ_eq_append_getElem h, List.all_append, ha]; simp [hb]
set_option maxRecDepth 100000 in
set_option maxHeartbeats 2000000 in
theorem spec_TyOk (w : World) (h : Hp) (hs : Sub h w) (v : Value) (xs : List TyI) (hv : TyS h v xs) (hl : xs.length ≤ 1000000000) :
    Calls Try.prog 39 #[.agg #[v]] w fun e w' => e = .returned (.bool (tyOkM xs)) ∧ Below w.heap.size w w' := by
  have hm := Lib.hid hv.mem
  have HV := Lib.hid hv
  obtain ⟨a, c, rfl, hc1, hc2, -⟩ := hv
  unfold maxLen at hc2
  by_cases h200 : 200 < xs.length
  · have h2 : (xs.length : Int) > 200 := by omega
    have HA : tyOkM xs = false := by unfold tyOkM; rw [decide_eq_false (by omega)]; rfl
    rw [HA]
    clear HA
    go_enter Try.func39, Try.ntmps39
    go_wp2
    go_ret
    exact ⟨rfl, (by repeat (first | with_reducible exact Below.refl _ _ | with_reducible assumption | with_reducible refine Below.setCell ?_ ?_ _ | with_reducible refine Below.alloc ?_ ?_ _ | with_reducible refine Below.drew ?_ | (with_reducible apply below_chain; with_reducible assumption) | exact Nat.le_refl _ | omega | (simp <;> omega)))⟩
  · have h2 : ¬ (xs.length : Int) > 200 := by omega
    go_enter Try.func39, Try.ntmps39
    go_wp2
    go_loopw [12] (fun i wr => ∃ (k : Nat), k ≤ xs.length ∧ i = .int .i64 k ∧ (xs.take k).all itemM = true ∧ Below (w.alloc (.cells #[.slice a xs.length c] 36)).heap.size (w.alloc (.cells #[.slice a xs.length c] 36)) wr) (fun i _ => xs.length - (intOf i).toNat)
    case atStart => exact ⟨0, by omega, rfl, rfl, Below.refl _ _⟩
    case round =>
      obtain ⟨k, hk, rfl, hall, hbel⟩ := hrel
      have hsub : Sub h wr := (hs.alloc _).below hbel
      obtain ⟨kc, kf⟩ := bcell hbel
      have kb := kc w.heap.size 0 (by simp)
      rw [new_cell0] at kb
      have HBel := Lib.hid hbel
      have hb0 := Lib.hid (below_chain hbel ((Below.refl w.heap.size w).alloc (Nat.le_refl _) _) (by simp))
      have HAll := Lib.hid hall
      clear kc kf hbel hall
      by_cases hlt : k < xs.length
      · obtain ⟨bl, off, rfl, hcell⟩ := HV.out.cell hlt
        obtain ⟨c0, c1, c2⟩ := hcell k hlt wr hsub
        have HX := Lib.hid (hm.out _ (List.getElem_mem hlt))
        have HF := Lib.hid (all_false hlt)
        have HT := Lib.hid (all_take_succ hlt HAll.out)
        clear hcell
        cases hi : itemM xs[k]
        · have HI := Lib.hid hi
          go_wp2_with (first | (go_at_call 73; refine (spec_l04Item _ _ HX.out).mono ?_; rw [HI.out]; rintro e w2 ⟨rfl, hb2⟩))
          go_ret
          exact ⟨ret_b (HF.out HI.out).symm, below_chain hb2 (hb0.out.alloc hb0.out.size _) (hb0.out.alloc hb0.out.size _).size⟩
        · have HI := Lib.hid hi
          clear hi
          go_wp2_with (first | (go_at_call 73; refine (spec_l04Item _ _ HX.out).mono ?_; rw [HI.out]; rintro e w2 ⟨rfl, hb2⟩))
          refine ⟨⟨k + 1, by omega, by go_num, HT.out HI.out, below_chain hb2 (HBel.out.alloc HBel.out.size _) (HBel.out.alloc HBel.out.size _).size⟩, ?_⟩
          simp [intOf]; omega
      · obtain rfl : k = xs.length := by omega
        have ha : xs.all itemM = true := by have := HAll.out; rwa [List.take_length] at this
        have HE := Lib.hid (fun (wx : World) (hsx : Sub h wx) => spec_l04End xs.length wx h hsx _ xs HV.out (items_ar ha) hl 0 (by omega) (by omega))
        have HA : tyOkM xs = (endM xs 0 == (xs.length : Int)) := by
          unfold tyOkM tyItemsM
          rw [decide_eq_true (by omega), ha]
          simp [Bool.beq_eq_decide_eq]
        have HA' := Lib.hid HA
        clear HA ha
        go_wp2
        go_region_law (first | (refine step_guard rfl ?_; go_simp; go_at_call 74; refine (HE.out _ (by exact hsub)).mono ?_; rintro e w2 ⟨rfl, hb2⟩; dsimp only; replace hb2 := below_undrew hb2; have kb2 := cell_kept hb2 kb))
        all_goals
          go_wp2
          all_goals
            go_ret
            exact ⟨ret_b HA'.out.symm, below_chain hb2 hb0.out hb0.out.size⟩
end Go.Proofs.Ytmopjpnghomdfaa
