/- PatOk: the reference's text. -/
import Derived.Test.YtokjkmibnjfkaaaSpecPNode
import Derived.Test.YtokjkmibnjfkaaaEndPat
namespace Go.Proofs.Ytokjkmibnjfkaaa
set_option linter.unusedVariables false
set_option linter.unusedSimpArgs false
open Go.RowKit
def dupB (y x : DPNode) : Bool := (x.kind == 2) && ((y.kind == 2) && decide (y.s = x.s))
def goodAt (xs : List DPNode) (i : Nat) (h : i < xs.length) : Bool := pnodeM xs xs[i] && (xs.take i).all fun y => !dupB y xs[i]
def patM (xs : List DPNode) : Bool := decide (1 ≤ xs.length) && decide (xs.length ≤ 600) && (List.finRange xs.length).all (fun i => goodAt xs i.1 i.2) && orderM (kidsP xs)
theorem fin_all {n : Nat} {p : Fin n → Bool} : (List.finRange n).all p = true ↔ ∀ i, p i = true := by simp [List.all_eq_true]
theorem patM_bad {xs : List DPNode} {k : Nat} (h : k < xs.length) (hb : goodAt xs k h = false) : patM xs = false := by
  have : (List.finRange xs.length).all (fun i => goodAt xs i.1 i.2) = false := by
    rw [List.all_eq_false]
    exact ⟨⟨k, h⟩, List.mem_finRange _, by simp [hb]⟩
  unfold patM
  rw [this, Bool.and_false, Bool.false_and]
theorem good_false1 {xs : List DPNode} {k : Nat} (h : k < xs.length) (hb : pnodeM xs xs[k] = false) : goodAt xs k h = false := by unfold goodAt; rw [hb]; rfl
theorem good_false2 {xs : List DPNode} {k j : Nat} (h : k < xs.length) (hj : j < k) (hb : dupB (xs[j]'(by omega)) xs[k] = true) : goodAt xs k h = false := by
  unfold goodAt
  have : ((xs.take k).all fun y => !dupB y xs[k]) = false := by
    rw [List.all_eq_false]
    refine ⟨xs[j]'(by omega), ?_, by rw [hb]; simp⟩
    rw [List.mem_take_iff_getElem]
    exact ⟨j, by omega, rfl⟩
  rw [this, Bool.and_false]
theorem good_true {xs : List DPNode} {k : Nat} (h : k < xs.length) (hb : pnodeM xs xs[k] = true) (hd : ∀ j (hj : j < k), dupB (xs[j]'(by omega)) xs[k] = false) : goodAt xs k h = true := by
  unfold goodAt
  rw [hb, Bool.true_and, List.all_eq_true]
  intro y hy
  rw [List.mem_take_iff_getElem] at hy
  obtain ⟨j, hj, rfl⟩ := hy
  rw [hd j (by omega)]; rfl
theorem good_upto {xs : List DPNode} {k : Nat} (h : ∀ j (hj : j < xs.length), j < k → goodAt xs j hj = true) (hlt : k < xs.length) (hk : goodAt xs k hlt = true) : ∀ j (hj : j < xs.length), j < k + 1 → goodAt xs j hj = true := fun j hj hjk => by
  rcases Nat.lt_or_ge j k with q | q
  · exact h j hj q
  · obtain rfl : j = k := by omega
    exact hk
theorem new_cellN (w : World) (cs : Array Value) (t : TypeId) (i : Nat) : (w.alloc (.cells cs t)).cell? ⟨w.heap.size, i, none⟩ = cs[i]? := by
  have : (w.alloc (.cells cs t)).heap[w.heap.size]? = some (.cells cs t) := by show (w.heap.push _)[w.heap.size]? = _; simp
  simp only [World.cell?, this]
  rw [if_neg (by simp)]
set_option maxRecDepth 100000 in
set_option maxHeartbeats 8000000 in
theorem spec_PatOk (w : World) (h : Hp) (hs : Sub h w) (v : Value) (xs : List DPNode) (hv : DPNodeS h v xs) (hl : xs.length ≤ 1000000000) (hks : ∀ k (h : k < xs.length), xs[k].kids.length ≤ 1000000000) :
    Calls Try.prog 25 #[.agg #[v]] w fun e w' => e = .returned (.bool (patM xs)) ∧ Below w.heap.size w w' := by
  have hm := Lib.hid hv.mem
  have HV := Lib.hid hv
  have KS := Lib.hid hks
  clear hks
  obtain ⟨a, c, rfl, hc1, hc2, -⟩ := hv
  unfold maxLen at hc2
  by_cases h600 : 1 ≤ xs.length ∧ xs.length ≤ 600
  · obtain ⟨h6, h7⟩ := h600
    obtain ⟨bq, hbq⟩ : ∃ b, patM xs = b := ⟨_, rfl⟩
    have HB := Lib.hid (show ∀ k (h : k < xs.length), goodAt xs k h = false → bq = false from fun k h hb => hbq.symm.trans (patM_bad h hb))
    have HG := Lib.hid (show (∀ k (h : k < xs.length), goodAt xs k h = true) → bq = orderM (kidsP xs) from fun hh => by
      rw [← hbq]
      unfold patM
      have : (List.finRange xs.length).all (fun i => goodAt xs i.1 i.2) = true := fin_all.2 fun i => hh i.1 i.2
      rw [this, decide_eq_true h6, decide_eq_true h7]; rfl)
    rw [hbq]
    clear hbq
    have i6 : ¬ (xs.length : Int) < 1 := by omega
    have i7 : ¬ (600 : Int) < xs.length := by omega
    go_enter Try.func25, Try.ntmps25
    go_wp2_with fail
    go_loopw [19] (fun i wr => ∃ (k : Nat), k ≤ xs.length ∧ i = .int .i64 k ∧ (∀ j (h : j < xs.length), j < k → goodAt xs j h = true) ∧ Below (w.alloc (.cells #[.slice a xs.length c] 29)).heap.size (w.alloc (.cells #[.slice a xs.length c] 29)) wr) (fun i _ => xs.length - (intOf i).toNat)
    case atStart => exact ⟨0, by omega, rfl, fun _ _ hj => absurd hj (by omega), Below.refl _ _⟩
    case round =>
      obtain ⟨k, hk, rfl, hall, hbel⟩ := hrel
      have hsub : Sub h wr := (hs.alloc _).below hbel
      obtain ⟨kc, kf⟩ := bcell hbel
      have kb := kc w.heap.size 0 (by simp)
      rw [new_cell0] at kb
      have hsz : w.heap.size < wr.heap.size := World.block_lt_of_cell? _ _ kb
      have HBel := Lib.hid hbel
      have hb0 := Lib.hid (below_chain hbel ((Below.refl w.heap.size w).alloc (Nat.le_refl _) _) (by simp))
      have HAll := Lib.hid hall
      clear kc kf hbel hall
      by_cases hlt : k < xs.length
      · obtain ⟨bl, off, rfl, hcell⟩ := HV.out.cell hlt
        obtain ⟨v1, hrel, hcs⟩ := hcell k hlt
        obtain ⟨c0, c1, c2, c3⟩ := hcs wr hsub
        have hx := Lib.hid (hm.out _ (List.getElem_mem hlt))
        have hrel' : IntS h v1 xs[k].kids := hrel
        obtain ⟨a1, d1, rfl, -⟩ := id hrel'
        have HR := Lib.hid hrel'
        have HC := Lib.hid hcell
        have KN := Lib.hid (fun (w : World) (hs : Sub h w) => spec_l04PNode w h hs _ xs HV.out hl xs[k] hx.out _ HR.out (KS.out k hlt))
        clear hrel hcs hcell hrel'
        cases hp : pnodeM xs xs[k]
        · have HP := Lib.hid hp
          clear hp
          have HF := Lib.hid (HB.out k hlt (good_false1 hlt HP.out))
          go_wp2_with fail
          refine (KN.out _ (hsub.alloc _)).mono ?_
          rw [HP.out]
          rintro e w2 ⟨rfl, hb2⟩
          go_wp2_with fail
          go_ret
          exact ⟨ret_b HF.out.symm, below_chain hb2 (hb0.out.alloc hb0.out.size _) (hb0.out.alloc hb0.out.size _).size⟩
        · have HP := Lib.hid hp
          clear hp
          go_wp2_with fail
          refine (KN.out _ (hsub.alloc _)).mono ?_
          rw [HP.out]
          rintro e w2 ⟨rfl, hb2⟩
          have s2 := (hsub.alloc _).below hb2
          have kb2 := cell_kept hb2 (cell_kept ((Below.refl _ _).alloc (Nat.le_refl _) _) kb)
          have HBx := Lib.hid (below_chain hb2 (HBel.out.alloc HBel.out.size _) (HBel.out.alloc HBel.out.size _).size)
          have HB0 := Lib.hid (below_chain hb2 (hb0.out.alloc hb0.out.size _) (hb0.out.alloc hb0.out.size _).size)
          have q0 : w2.cell? ⟨wr.heap.size, 0, none⟩ = some (.int .i64 xs[k].kind) := cell_kept hb2 ((new_cellN wr #[.int .i64 xs[k].kind, .int .i64 xs[k].n, .string xs[k].s, .slice a1 xs[k].kids.length d1] 109 0).trans rfl)
          have q2 : w2.cell? ⟨wr.heap.size, 2, none⟩ = some (.string xs[k].s) := cell_kept hb2 ((new_cellN wr #[.int .i64 xs[k].kind, .int .i64 xs[k].n, .string xs[k].s, .slice a1 xs[k].kids.length d1] 109 2).trans rfl)
          have hsx : w.heap.size < w2.heap.size := World.block_lt_of_cell? _ _ kb2
          clear hb2 c0 c1 c2 c3 kb
          go_wp2_with fail
          go_loopw [5] (fun jv wx => ∃ (j nq : Nat), j ≤ k ∧ jv = .int .i64 j ∧ (∀ i (hi : i < j) (h : i < xs.length), dupB xs[i] xs[k] = false) ∧ wx = w2.drewN nq) (fun jv _ => k - (intOf jv).toNat)
          case atStart => exact ⟨0, 0, by omega, rfl, fun _ hj => absurd hj (by omega), rfl⟩
          case round =>
            obtain ⟨j, nq, hjk, rfl, hnd, rfl⟩ := hrel
            have HND := Lib.hid hnd
            clear hnd
            by_cases hj : j < k
            · have hjl : j < xs.length := by omega
              obtain ⟨v2, -, hcs2⟩ := HC.out j hjl
              obtain ⟨e0, -, e2, -⟩ := hcs2 w2 s2
              clear hcs2
              cases hk2 : (xs[k].kind == 2)
              · have HD := Lib.hid (show dupB xs[j] xs[k] = false by unfold dupB; rw [hk2]; rfl)
                go_wp2_with fail
                go_quiet (fail)
                go_wp2_with fail
                refine ⟨⟨j + 1, _, by omega, by go_num, fun i hi h => ?_, (by first | exact rfl | exact World.drewN_drewN ..)⟩, by simp [intOf]; omega⟩
                rcases Nat.lt_or_ge i j with q | q
                · exact HND.out i q h
                · obtain rfl : i = j := by omega
                  exact HD.out
              · cases hj2 : (xs[j].kind == 2)
                · have HD := Lib.hid (show dupB xs[j] xs[k] = false by unfold dupB; rw [hk2, hj2]; rfl)
                  go_wp2_with fail
                  go_quiet (fail)
                  go_wp2_with fail
                  refine ⟨⟨j + 1, _, by omega, by go_num, fun i hi h => ?_, (by first | exact rfl | exact World.drewN_drewN ..)⟩, by simp [intOf]; omega⟩
                  rcases Nat.lt_or_ge i j with q | q
                  · exact HND.out i q h
                  · obtain rfl : i = j := by omega
                    exact HD.out
                · by_cases hss : xs[j].s = xs[k].s
                  · have HD := Lib.hid (show dupB xs[j] xs[k] = true by unfold dupB; rw [hk2, hj2, decide_eq_true hss]; rfl)
                    have HF := Lib.hid (HB.out k hlt (good_false2 hlt hj HD.out))
                    rw [hss] at e2
                    clear hss
                    go_wp2_with fail
                    go_quiet (fail)
                    go_wp2_with fail
                    go_ret
                    exact ⟨ret_b HF.out.symm, (by repeat (first | exact HB0.out | refine below_drewI ?_ _))⟩
                  · have HD := Lib.hid (show dupB xs[j] xs[k] = false by unfold dupB; rw [decide_eq_false hss]; simp)
                    have hsl : (xs[j].s.toList == xs[k].s.toList) = false := by rw [str_beq]; simpa using hss
                    go_wp2_with fail
                    go_quiet (fail)
                    go_wp2_with fail
                    refine ⟨⟨j + 1, _, by omega, by go_num, fun i hi h => ?_, (by first | exact rfl | exact World.drewN_drewN ..)⟩, by simp [intOf]; omega⟩
                    rcases Nat.lt_or_ge i j with q | q
                    · exact HND.out i q h
                    · obtain rfl : i = j := by omega
                      exact HD.out
            · have HGd := Lib.hid (good_upto HAll.out hlt (good_true hlt HP.out (fun i hi => HND.out i (by omega) (by omega))))
              go_wp2_with fail
              exact ⟨⟨k + 1, by omega, by go_num, HGd.out, (by repeat (first | exact HBx.out | refine below_drewI ?_ _))⟩, by simp [intOf]; omega⟩
      · obtain rfl : k = xs.length := by omega
        have HGG := Lib.hid (HG.out (fun j hj => HAll.out j hj hj))
        have HEnd := Lib.hid (fun (w : World) (hs : Sub h w) => spec_l04PEnd xs.length w h hs _ xs HV.out hl KS.out 0 (by omega) (by omega))
        have HZ := Lib.hid (endZ_len (pEnd (kidsP xs) xs.length 0) xs.length)
        go_wp2_with fail
        (first | go_region_law (first | (refine step_guard rfl ?_; go_simp; go_at_call 66; refine (HEnd.out _ (by first | with_reducible exact hsub.drew | with_reducible exact hsub)).mono ?_; rintro e w2 ⟨rfl, hb2⟩; dsimp only; replace hb2 := below_undrew hb2; have kb2 := cell_kept hb2 kb)) | fail)
        all_goals
          go_wp2_with fail
          go_ret
          exact ⟨ret_b (by rw [HGG.out]; unfold orderM; rw [kidsP_len]; exact HZ.out), below_chain hb2 hb0.out hb0.out.size⟩
  · have hm0 : patM xs = false := by
      unfold patM
      by_cases q : 1 ≤ xs.length
      · rw [decide_eq_false (p := xs.length ≤ 600) (fun q2 => h600 ⟨q, q2⟩)]; simp
      · rw [decide_eq_false q]; simp
    rw [hm0]
    rcases (show xs.length = 0 ∨ 600 < xs.length by omega) with q | q
    all_goals
      clear hm0 h600
      have q' : (xs.length : Int) = 0 ∨ (600 : Int) < xs.length := by omega
      go_enter Try.func25, Try.ntmps25
      go_wp2_with fail
      all_goals
        go_ret
        exact ⟨rfl, (by repeat (first | with_reducible exact Below.refl _ _ | with_reducible assumption | with_reducible refine Below.setCell ?_ ?_ _ | with_reducible refine Below.alloc ?_ ?_ _ | with_reducible refine Below.drew ?_ | (with_reducible apply below_chain; with_reducible assumption) | exact Nat.le_refl _ | omega | (simp <;> omega)))⟩
end Go.Proofs.Ytokjkmibnjfkaaa
