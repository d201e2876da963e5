/- HeapOk of both texts. -/
import Derived.Test.YthpphiplbaehdaaHeapD
namespace Go.Proofs.Ythpphiplbaehdaa
set_option linter.unusedVariables false
set_option linter.unusedSimpArgs false
open Go.RowKit Go.ChangeShapes Go.WideShapes
def heapM (xs : List DCell) (vs : List DVal) : Bool := decide (xs.length ≤ 4000) && xs.all (cellM xs.length) && vs.all (valM xs.length)
theorem impl_HeapOk_1 (w : World) (B : Nat) (a : Option Addr) (m c : Nat) (hm : m ≤ 1000000000) (x : DVal) (hx : valOk x) (hB : w.cell? ⟨B, 0, none⟩ = some (.slice a m c)) :
    Calls Try.prog 76 #[.agg #[.int .i64 x.kind, .int .i64 x.n, .string x.s], .pointer (some ⟨B, 0, none⟩)] w fun e w' => e = .returned (.bool (!valM m x)) ∧ Below w.heap.size w w' := by
  have hlt : B < w.heap.size := World.block_lt_of_cell? _ _ hB
  have hk := fun w => impl_valOk w m hm x hx
  have HK := Lib.hid hk
  clear hk
  cases hb : valM m x
  all_goals
    have HB := Lib.hid hb
    go_enter Try.func76, Try.ntmps76
    go_wp2_with fail
    refine (HK.out _).mono ?_
    rw [HB.out]
    rintro e w1 ⟨rfl, hb1⟩
    go_wp2_with fail
    go_ret
    exact ⟨rfl, (by repeat (first | with_reducible exact Below.refl _ _ | with_reducible assumption | with_reducible refine Below.setCell ?_ ?_ _ | with_reducible refine Below.alloc ?_ ?_ _ | with_reducible refine Below.drew ?_ | (with_reducible apply below_chain; with_reducible assumption) | exact Nat.le_refl _ | omega | (simp <;> omega)))⟩

def AnyP (b : Bool) (e : Ending) : Prop := ∃ r : Int, e = .returned (.int .i64 r) ∧ decide (0 ≤ r) = b
set_option maxRecDepth 100000 in
set_option maxHeartbeats 2000000 in
theorem heap_IndexFunc (w : World) (h : Hp) (hs : Sub h w) (v : Value) (xs : List DVal) (hv : DValS h v xs) (hl : xs.length ≤ 1000000000) (B : Nat) (a0 : Option Addr) (m cc : Nat) (hm : m ≤ 1000000000) (hB : w.cell? ⟨B, 0, none⟩ = some (.slice a0 m cc)) :
    Calls Try.prog 144 #[v, .func (.func 76) #[] #[.pointer (some ⟨B, 0, none⟩)]] w fun e w' => AnyP (!xs.all (valM m)) e ∧ Below w.heap.size w w' := by
  have hmem := Lib.hid hv.mem
  have HV := Lib.hid hv
  obtain ⟨a, c, rfl, hc1, hc2, -⟩ := hv
  unfold maxLen at hc2
  obtain ⟨bq, hbq⟩ : ∃ b, (!xs.all (valM m)) = b := ⟨_, rfl⟩
  rw [hbq]
  have HBQ := Lib.hid hbq
  clear hbq
  have HB := Lib.hid hB
  clear hB
  go_enter Try.func144, Try.ntmps144
  go_wp2
  go_loopw [5, 8] (fun q i wr => ∃ k : Nat, k ≤ xs.length ∧ i = .int .i64 k ∧ (∀ j (h : j < xs.length), j < k → valM m xs[j] = true) ∧ Below w.heap.size w wr) (fun _ i _ => xs.length - (intOf i).toNat)
  case atStart => exact ⟨0, by omega, rfl, fun _ _ hj => absurd hj (by omega), Below.refl _ _⟩
  case round =>
    obtain ⟨k, hk, rfl, hall, hbel⟩ := hrel
    have HAll := Lib.hid hall
    clear hall
    by_cases hlt : k < xs.length
    · obtain ⟨b, off, rfl, hcell⟩ := HV.out.cell hlt
      obtain ⟨c0, c1, c2⟩ := hcell k hlt wr (hs.below hbel)
      have hok := Lib.hid (hmem.out _ (List.getElem_mem hlt))
      have hcc := Lib.hid (cell_kept hbel HB.out)
      clear hcell
      cases hp : valM m xs[k]
      · have HP := Lib.hid hp
        clear hp
        have HA : bq = true := by
          rw [← HBQ.out, Bool.not_eq_true', List.all_eq_false]
          exact ⟨_, List.getElem_mem hlt, by rw [HP.out]; simp⟩
        have HA' := Lib.hid HA
        clear HA
        go_wp2_with fail
        refine (impl_HeapOk_1 _ B a0 m cc hm xs[k] hok.out hcc.out).mono ?_
        rw [HP.out]
        rintro e w1 ⟨rfl, hb1⟩
        go_wp2_with fail
        go_ret
        exact ⟨⟨_, rfl, by rw [HA'.out]; simp⟩, below_chain hb1 hbel hbel.size⟩
      · have HP := Lib.hid hp
        clear hp
        go_wp2_with fail
        refine (impl_HeapOk_1 _ B a0 m cc hm xs[k] hok.out hcc.out).mono ?_
        rw [HP.out]
        rintro e w1 ⟨rfl, hb1⟩
        go_wp2_with fail
        refine ⟨⟨k + 1, by omega, by go_num, fun j hj hjk => ?_, below_chain hb1 hbel hbel.size⟩, ?_⟩
        · rcases Nat.lt_or_ge j k with q | q
          · exact HAll.out j hj q
          · obtain rfl : j = k := by omega
            exact HP.out
        · simp [intOf]; omega
    · have HA : bq = false := by
        rw [← HBQ.out, Bool.not_eq_false', List.all_eq_true]
        intro x hx
        obtain ⟨j, hj, rfl⟩ := List.getElem_of_mem hx
        exact HAll.out j hj (by omega)
      have HA' := Lib.hid HA
      clear HA
      go_wp2
      go_ret
      exact ⟨⟨_, rfl, by rw [HA'.out]; simp⟩, hbel⟩
theorem heap_ContainsFunc (w : World) (h : Hp) (hs : Sub h w) (v : Value) (xs : List DVal) (hv : DValS h v xs) (hl : xs.length ≤ 1000000000) (B : Nat) (a0 : Option Addr) (m c0 : Nat) (hm : m ≤ 1000000000) (hB : w.cell? ⟨B, 0, none⟩ = some (.slice a0 m c0)) :
    Calls Try.prog 75 #[v, .func (.func 76) #[] #[.pointer (some ⟨B, 0, none⟩)]] w fun e w' => e = .returned (.bool (!xs.all (valM m))) ∧ Below w.heap.size w w' := by
  have K := Lib.hid (heap_IndexFunc w h hs v xs hv hl B a0 m c0 hm hB)
  obtain ⟨bq, hbq⟩ : ∃ b, (!xs.all (valM m)) = b := ⟨_, rfl⟩
  rw [hbq]
  rw [hbq] at K
  clear hbq hB
  go_enter Try.func75, Try.ntmps75
  go_wp2_with fail
  refine K.out.mono ?_
  rintro e w1 ⟨⟨r, rfl, hr⟩, hb1⟩
  have HR := Lib.hid hr
  clear hr
  go_wp2_with fail
  go_ret
  exact ⟨ret_b (by rw [← HR.out]), hb1⟩
set_option maxRecDepth 100000 in
set_option maxHeartbeats 4000000 in
theorem impl_HeapOk (w : World) (h : Hp) (hs : Sub h w) (u v : Value) (xs : List DCell) (vs : List DVal) (hu : DCellS h u xs) (hv : DValS h v vs) (hl : xs.length ≤ 1000000000) (hl2 : vs.length ≤ 1000000000) :
    Calls Try.prog 25 #[u, v] w fun e w' => e = .returned (.bool (heapM xs vs)) ∧ Below w.heap.size w w' := by
  have hmem := Lib.hid hu.mem
  have HU := Lib.hid hu
  have HV := Lib.hid hv
  obtain ⟨a, c, rfl, hc1, hc2, -⟩ := hu
  unfold maxLen at hc2
  by_cases h4 : 4000 < xs.length
  · have hm0 : heapM xs vs = false := by unfold heapM; rw [decide_eq_false (by omega)]; rfl
    rw [hm0]
    clear hm0
    go_enter Try.func25, Try.ntmps25
    go_wp2
    go_ret
    exact ⟨rfl, (by repeat (first | with_reducible exact Below.refl _ _ | with_reducible assumption | with_reducible refine Below.setCell ?_ ?_ _ | with_reducible refine Below.alloc ?_ ?_ _ | with_reducible refine Below.drew ?_ | (with_reducible apply below_chain; with_reducible assumption) | exact Nat.le_refl _ | omega | (simp <;> omega)))⟩
  · have hm0 : heapM xs vs = (xs.all (cellM xs.length) && vs.all (valM xs.length)) := by unfold heapM; rw [decide_eq_true (by omega)]; rfl
    obtain ⟨bq, hbq⟩ : ∃ b, heapM xs vs = b := ⟨_, rfl⟩
    rw [hbq]
    rw [hbq] at hm0
    have HM := Lib.hid hm0
    clear hm0 hbq
    go_enter Try.func25, Try.ntmps25
    go_wp2
    go_loopw [12] (fun i wr => ∃ k : Nat, k ≤ xs.length ∧ i = .int .i64 k ∧ (∀ j (h : j < xs.length), j < k → cellM xs.length xs[j] = true) ∧ Below (w.alloc (.cells #[.slice a xs.length c] 38)).heap.size (w.alloc (.cells #[.slice a xs.length c] 38)) wr) (fun i _ => xs.length - (intOf i).toNat)
    case atStart => exact ⟨0, by omega, rfl, fun _ _ hj => absurd hj (by omega), Below.refl _ _⟩
    case round =>
      obtain ⟨k, hk, rfl, hall, hbel⟩ := hrel
      have hsub : Sub h wr := (hs.alloc _).below hbel
      obtain ⟨kc, kf⟩ := bcell hbel
      have kb := kc w.heap.size 0 (by simp)
      rw [new_cell0] at kb
      have hsz : w.heap.size < wr.heap.size := World.block_lt_of_cell? _ _ kb
      have HBel := Lib.hid hbel
      have hb0 := Lib.hid (below_chain hbel ((Below.refl w.heap.size w).alloc (Nat.le_refl _) _) (by simp))
      have HAll := Lib.hid hall
      clear kc kf hbel hall
      by_cases hlt : k < xs.length
      · obtain ⟨b, off, rfl, hcell⟩ := HU.out.cell hlt
        obtain ⟨c0, c1, c2, c3, c4, c5, c6, c7, c8⟩ := hcell k hlt wr hsub
        have hok := Lib.hid (hmem.out _ (List.getElem_mem hlt))
        clear hcell
        cases hp : cellM xs.length xs[k]
        · have HP := Lib.hid hp
          clear hp
          have HA : bq = false := by
            rw [HM.out]
            have : xs.all (cellM xs.length) = false := by
              rw [List.all_eq_false]
              exact ⟨_, List.getElem_mem hlt, by rw [HP.out]; simp⟩
            rw [this]; rfl
          have HA' := Lib.hid HA
          clear HA
          go_wp2_with fail
          refine (impl_cellOk _ xs.length (by omega) xs[k] hok.out).mono ?_
          rw [HP.out]
          rintro e w1 ⟨rfl, hb1⟩
          go_wp2_with fail
          go_ret
          exact ⟨ret_b HA'.out.symm, below_chain hb1 (hb0.out.alloc hb0.out.size _) (hb0.out.alloc hb0.out.size _).size⟩
        · have HP := Lib.hid hp
          clear hp
          go_wp2_with fail
          refine (impl_cellOk _ xs.length (by omega) xs[k] hok.out).mono ?_
          rw [HP.out]
          rintro e w1 ⟨rfl, hb1⟩
          go_wp2_with fail
          refine ⟨⟨k + 1, by omega, by go_num, fun j hj hjk => ?_, below_chain hb1 (HBel.out.alloc HBel.out.size _) (HBel.out.alloc HBel.out.size _).size⟩, ?_⟩
          · rcases Nat.lt_or_ge j k with q | q
            · exact HAll.out j hj q
            · obtain rfl : j = k := by omega
              exact HP.out
          · simp [intOf]; omega
      · have HA : xs.all (cellM xs.length) = true := by
          rw [List.all_eq_true]
          intro x hx
          obtain ⟨j, hj, rfl⟩ := List.getElem_of_mem hx
          exact HAll.out j hj (by omega)
        have HM' := HM.out
        rw [HA, Bool.true_and] at HM'
        have HM2 := Lib.hid HM'
        clear HM' HA
        have KB := Lib.hid kb
        go_wp2_with fail
        refine (heap_ContainsFunc _ h (by exact hsub) v vs HV.out hl2 w.heap.size a xs.length c (by omega) (by exact KB.out)).mono ?_
        rw [← HM2.out]
        rintro e w1 ⟨rfl, hb1⟩
        go_wp2_with fail
        go_ret
        exact ⟨ret_b (by cases bq <;> rfl), below_chain hb1 hb0.out hb0.out.size⟩
end Go.Proofs.Ythpphiplbaehdaa
