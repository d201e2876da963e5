/- HeapOk of the reference. -/
import Derived.Test.YthpphiplbaehdaaHeapT
namespace Go.Proofs.Ythpphiplbaehdaa
set_option linter.unusedVariables false
set_option linter.unusedSimpArgs false
open Go.RowKit Go.ChangeShapes Go.WideShapes
theorem all_false_at {α : Type} {p : α → Bool} {xs : List α} {k : Nat} (h : k < xs.length) (hb : p xs[k] = false) : xs.all p = false := by
  rw [List.all_eq_false]; exact ⟨_, List.getElem_mem h, by rw [hb]; simp⟩
theorem all_true_of {α : Type} {p : α → Bool} {xs : List α} (h : ∀ j (hj : j < xs.length), p xs[j] = true) : xs.all p = true := by
  rw [List.all_eq_true]; intro x hx; obtain ⟨j, hj, rfl⟩ := List.getElem_of_mem hx; exact h j hj
theorem upto_succ {α : Type} {p : α → Bool} {xs : List α} {k : Nat} (h : ∀ j (hj : j < xs.length), j < k → p xs[j] = true) (hlt : k < xs.length) (hk : p xs[k] = true) : ∀ j (hj : j < xs.length), j < k + 1 → p xs[j] = true := fun j hj hjk => by
  rcases Nat.lt_or_ge j k with q | q
  · exact h j hj q
  · obtain rfl : j = k := by omega
    exact hk
set_option maxRecDepth 100000 in
set_option maxHeartbeats 4000000 in
theorem spec_HeapOk (w : World) (h : Hp) (hs : Sub h w) (u v : Value) (xs : List DCell) (vs : List DVal) (hu : DCellS h u xs) (hv : DValS h v vs) (hl : xs.length ≤ 1000000000) (hl2 : vs.length ≤ 1000000000) :
    Calls Try.prog 22 #[u, v] w fun e w' => e = .returned (.bool (heapM xs vs)) ∧ Below w.heap.size w w' := by
  have hmem := Lib.hid hu.mem
  have hmem2 := Lib.hid hv.mem
  have HU := Lib.hid hu
  have HV := Lib.hid hv
  obtain ⟨a, c, rfl, hc1, hc2, -⟩ := hu
  obtain ⟨a', c', rfl, hc1', hc2', -⟩ := hv
  unfold maxLen at hc2 hc2'
  by_cases h4 : 4000 < xs.length
  · have hm0 : heapM xs vs = false := by unfold heapM; rw [decide_eq_false (by omega)]; rfl
    rw [hm0]
    clear hm0
    go_enter Try.func22, Try.ntmps22
    go_wp2
    go_ret
    exact ⟨rfl, (by repeat (first | with_reducible exact Below.refl _ _ | with_reducible assumption | with_reducible refine Below.setCell ?_ ?_ _ | with_reducible refine Below.alloc ?_ ?_ _ | with_reducible refine Below.drew ?_ | (with_reducible apply below_chain; with_reducible assumption) | exact Nat.le_refl _ | omega | (simp <;> omega)))⟩
  · have hm0 : heapM xs vs = (xs.all (cellM xs.length) && vs.all (valM xs.length)) := by unfold heapM; rw [decide_eq_true (by omega)]; rfl
    obtain ⟨bq, hbq⟩ : ∃ b, heapM xs vs = b := ⟨_, rfl⟩
    rw [hbq]
    rw [hbq] at hm0
    have HM := Lib.hid hm0
    clear hm0 hbq
    go_enter Try.func22, Try.ntmps22
    go_wp2
    go_loopw [14] (fun i wr => ∃ k : Nat, k ≤ xs.length ∧ i = .int .i64 k ∧ (∀ j (h : j < xs.length), j < k → cellM xs.length xs[j] = true) ∧ Below w.heap.size w wr) (fun i _ => xs.length - (intOf i).toNat)
    case atStart => exact ⟨0, by omega, rfl, fun _ _ hj => absurd hj (by omega), Below.refl _ _⟩
    case round =>
      obtain ⟨k, hk, rfl, hall, hbel⟩ := hrel
      have hsub : Sub h wr := hs.below hbel
      have HBel := Lib.hid hbel
      have HAll := Lib.hid hall
      clear hbel hall
      by_cases hlt : k < xs.length
      · obtain ⟨b, off, rfl, hcell⟩ := HU.out.cell hlt
        obtain ⟨c0, c1, c2, c3, c4, c5, c6, c7, c8⟩ := hcell k hlt wr hsub
        have hok := Lib.hid (hmem.out _ (List.getElem_mem hlt))
        clear hcell
        cases hp : cellM xs.length xs[k]
        · have HP := Lib.hid hp
          clear hp
          have HA' := Lib.hid (show bq = false by rw [HM.out, all_false_at hlt HP.out]; rfl)
          go_wp2_with fail
          refine (spec_l11Cell _ _ xs.length c (by omega) xs[k] hok.out).mono ?_
          rw [HP.out]
          rintro e w1 ⟨rfl, hb1⟩
          go_wp2_with fail
          go_ret
          exact ⟨ret_b HA'.out.symm, below_chain hb1 (HBel.out.alloc HBel.out.size _) (HBel.out.alloc HBel.out.size _).size⟩
        · have HP := Lib.hid hp
          clear hp
          go_wp2_with fail
          refine (spec_l11Cell _ _ xs.length c (by omega) xs[k] hok.out).mono ?_
          rw [HP.out]
          rintro e w1 ⟨rfl, hb1⟩
          go_wp2_with fail
          refine ⟨⟨k + 1, by omega, by go_num, upto_succ HAll.out hlt HP.out, below_chain hb1 (HBel.out.alloc HBel.out.size _) (HBel.out.alloc HBel.out.size _).size⟩, ?_⟩
          simp [intOf]; omega
      · have HM' := HM.out
        rw [all_true_of (fun j hj => HAll.out j hj (by omega)), Bool.true_and] at HM'
        have HM2 := Lib.hid HM'
        clear HM'
        go_wp2
        go_loopw [25] (fun i wr => ∃ k : Nat, k ≤ vs.length ∧ i = .int .i64 k ∧ (∀ j (h : j < vs.length), j < k → valM xs.length vs[j] = true) ∧ Below w.heap.size w wr) (fun i _ => vs.length - (intOf i).toNat)
        case atStart => exact ⟨0, by omega, rfl, fun _ _ hj => absurd hj (by omega), HBel.out⟩
        case round =>
          obtain ⟨k', hk', rfl, hall', hbel'⟩ := hrel
          have hsub' : Sub h wr := hs.below hbel'
          have HBel' := Lib.hid hbel'
          have HAll' := Lib.hid hall'
          clear hbel' hall'
          by_cases hlt' : k' < vs.length
          · obtain ⟨b, off, rfl, hcell⟩ := HV.out.cell hlt'
            obtain ⟨c0, c1, c2⟩ := hcell k' hlt' wr hsub'
            have hok := Lib.hid (hmem2.out _ (List.getElem_mem hlt'))
            clear hcell
            cases hp : valM xs.length vs[k']
            · have HP := Lib.hid hp
              clear hp
              have HA' := Lib.hid (show bq = false by rw [HM2.out, all_false_at hlt' HP.out])
              go_wp2_with fail
              refine (spec_l11Val _ _ xs.length c (by omega) vs[k'] hok.out).mono ?_
              rw [HP.out]
              rintro e w1 ⟨rfl, hb1⟩
              go_wp2_with fail
              go_ret
              exact ⟨ret_b HA'.out.symm, below_chain hb1 (HBel'.out.alloc HBel'.out.size _) (HBel'.out.alloc HBel'.out.size _).size⟩
            · have HP := Lib.hid hp
              clear hp
              go_wp2_with fail
              refine (spec_l11Val _ _ xs.length c (by omega) vs[k'] hok.out).mono ?_
              rw [HP.out]
              rintro e w1 ⟨rfl, hb1⟩
              go_wp2_with fail
              refine ⟨⟨k' + 1, by omega, by go_num, upto_succ HAll'.out hlt' HP.out, below_chain hb1 (HBel'.out.alloc HBel'.out.size _) (HBel'.out.alloc HBel'.out.size _).size⟩, ?_⟩
              simp [intOf]; omega
          · have HA' := Lib.hid (show bq = true by rw [HM2.out, all_true_of (fun j hj => HAll'.out j hj (by omega))])
            go_wp2
            go_ret
            exact ⟨ret_b HA'.out.symm, HBel'.out⟩
end Go.Proofs.Ythpphiplbaehdaa
