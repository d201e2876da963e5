/- The place behind a pattern: the reference's text. -/
import Derived.Test.YtokjkmibnjfkaaaOrdPat
namespace Go.Proofs.Ytokjkmibnjfkaaa
set_option linter.unusedVariables false
set_option linter.unusedSimpArgs false
open Go.RowKit
set_option maxRecDepth 100000 in
set_option maxHeartbeats 4000000 in
theorem spec_l04PEnd : ∀ (n : Nat) (w : World) (h : Hp) (hs : Sub h w) (v : Value) (xs : List DPNode) (hv : DPNodeS h v xs) (hl : xs.length ≤ 1000000000) (hks : ∀ k (h : k < xs.length), xs[k].kids.length ≤ 1000000000) (m : Nat) (hn : xs.length - m ≤ n) (hm : m ≤ 2000000000),
    Calls Try.prog 66 #[.agg #[v], .int .i64 m] w fun e w' => e = .returned (.int .i64 (endZ (pEnd (kidsP xs) n m))) ∧ Below w.heap.size w w' := by
  have out : ∀ (n : Nat) (w : World) (h : Hp) (hs : Sub h w) (v : Value) (xs : List DPNode) (hv : DPNodeS h v xs) (hl : xs.length ≤ 1000000000) (m : Nat) (hm : m ≤ 2000000000) (hge : ¬ m < xs.length),
      Calls Try.prog 66 #[.agg #[v], .int .i64 m] w fun e w' => e = .returned (.int .i64 (endZ (pEnd (kidsP xs) n m))) ∧ Below w.heap.size w w' := by
    intro n w h hs v xs hv hl m hm hge
    obtain ⟨a, c, rfl, hc1, hc2, -⟩ := hv
    unfold maxLen at hc2
    rw [pEnd_out _ _ _ (by rw [kidsP_len]; omega)]
    go_enter Try.func66, Try.ntmps66
    go_wp2_with fail
    go_ret
    exact ⟨rfl, (by repeat (first | with_reducible exact Below.refl _ _ | with_reducible assumption | with_reducible refine Below.setCell ?_ ?_ _ | with_reducible refine Below.alloc ?_ ?_ _ | with_reducible refine Below.drew ?_ | (with_reducible apply below_chain; with_reducible assumption) | exact Nat.le_refl _ | omega | (simp <;> omega)))⟩
  intro n
  induction n with
  | zero =>
    intro w h hs v xs hv hl hks m hn hm
    exact out 0 w h hs v xs hv hl m hm (by omega)
  | succ n ih =>
    intro w h hs v xs hv hl hks m hn hm
    by_cases hlt : m < xs.length
    · clear out
      have HV := Lib.hid hv
      have IH := Lib.hid ih
      obtain ⟨a, c, rfl, hc1, hc2, -⟩ := hv
      unfold maxLen at hc2
      obtain ⟨b, off, rfl, hcell⟩ := HV.out.cell hlt
      obtain ⟨v1, hrel, hcs⟩ := hcell m hlt
      obtain ⟨c0, c1, c2, c3⟩ := hcs (w.alloc (.cells #[.slice (some ⟨b, off, none⟩) xs.length c] 29)) (hs.alloc _)
      have hrel' : IntS h v1 xs[m].kids := hrel
      have HV1 := Lib.hid hrel'
      obtain ⟨a1, d1, rfl, hd1, hd2, -⟩ := hrel'
      unfold maxLen at hd2
      have hll := hks m hlt
      obtain ⟨R, hR⟩ : ∃ R, pEnd (kidsP xs) (n + 1) m = R := ⟨_, rfl⟩
      rw [hR]
      rw [pEnd_at _ _ _ (by rw [kidsP_len]; exact hlt), kidsP_at xs m hlt] at hR
      have HRR := Lib.hid hR
      have KS := Lib.hid hks
      clear hcell hcs hR ih hrel hks
      have n1 : ¬ xs.length ≤ m := by omega
      go_enter Try.func66, Try.ntmps66
      go_wp2_with fail
      go_loopw [5, 7, 22] (fun nx q i wr => ∃ (j cur : Nat), j ≤ xs[m].kids.length ∧ i = .int .i64 j ∧ nx = .int .i64 cur ∧ m < cur ∧ cur ≤ 2000000000 ∧ pKids (pEnd (kidsP xs) n) (xs[m].kids.drop j) cur = R ∧ Below (w.alloc (.cells #[.slice (some ⟨b, off, none⟩) xs.length c] 29)).heap.size (w.alloc (.cells #[.slice (some ⟨b, off, none⟩) xs.length c] 29)) wr) (fun _ _ i _ => xs[m].kids.length - (intOf i).toNat)
      case atStart => exact ⟨0, m + 1, by omega, rfl, rfl, by omega, by omega, HRR.out, Below.refl _ _⟩
      case round =>
        obtain ⟨j, cur, hj, rfl, rfl, hcur, hcur2, hp, hbel⟩ := hrel
        have hsub : Sub h wr := (hs.alloc _).below hbel
        obtain ⟨kc, kf⟩ := bcell hbel
        have kb := kc w.heap.size 0 (by simp)
        rw [new_cell0] at kb
        have hb0 := Lib.hid (below_chain hbel ((Below.refl w.heap.size w).alloc (Nat.le_refl _) _) (by simp))
        have HBel := Lib.hid hbel
        have HP := Lib.hid hp
        clear hp kc kf hbel
        by_cases hjl : j < xs[m].kids.length
        · obtain ⟨b', off', rfl, hcell⟩ := HV1.out.cell hjl
          have hc := hcell j hjl wr hsub
          obtain ⟨z, hz⟩ : ∃ z, z = xs[m].kids[j] := ⟨_, rfl⟩
          have HQ : (if z = (cur : Int) then (pEnd (kidsP xs) n cur).bind (pKids (pEnd (kidsP xs) n) (xs[m].kids.drop (j + 1))) else none) = R := by
            rw [← HP.out, drop_cons _ j hjl, hz]; rfl
          rw [← hz] at hc
          by_cases hzc : z = (cur : Int)
          · rw [if_pos hzc] at HQ
            have HQQ := Lib.hid HQ
            subst hzc
            have KI := Lib.hid (IH.out wr h hsub _ xs HV.out hl KS.out cur (by omega) hcur2)
            clear HQ hcell hz
            cases hpe : pEnd (kidsP xs) n cur with
            | none =>
              have HE := Lib.hid (show R = none by rw [← HQQ.out, hpe]; rfl)
              have HPE := Lib.hid hpe
              clear hpe
              go_wp2_with fail
              refine KI.out.mono ?_
              rw [HPE.out]
              rintro e w2 ⟨rfl, hb4⟩
              rw [show endZ none = -1 from rfl]
              go_wp2_with fail
              go_ret
              exact ⟨ret_n (by rw [HE.out]; rfl), below_chain hb4 hb0.out hb0.out.size⟩
            | some e1 =>
              have hbd := pEnd_bd _ _ _ _ hpe
              rw [kidsP_len] at hbd
              have HE := Lib.hid (show pKids (pEnd (kidsP xs) n) (xs[m].kids.drop (j + 1)) e1 = R by rw [← HQQ.out, hpe]; rfl)
              have HPE := Lib.hid hpe
              clear hpe
              go_wp2_with fail
              refine KI.out.mono ?_
              rw [HPE.out]
              rintro e w2 ⟨rfl, hb4⟩
              rw [show endZ (some e1) = (e1 : Int) from rfl]
              go_wp2_with fail
              go_roundw
              case rel => exact ⟨j + 1, e1, by omega, by go_num, rfl, by omega, by omega, HE.out, below_chain hb4 HBel.out HBel.out.size⟩
              case measure => simp [intOf]; omega
          · rw [if_neg hzc] at HQ
            have HQQ := Lib.hid HQ
            clear HQ hcell hz
            go_wp2_with fail
            go_ret
            exact ⟨ret_n (by rw [← HQQ.out]; rfl), hb0.out⟩
        · have HE := Lib.hid (show R = some cur by rw [← HP.out, List.drop_eq_nil_of_le (by omega)]; rfl)
          go_wp2_with fail
          go_ret
          exact ⟨ret_n (by rw [HE.out]; rfl), hb0.out⟩
    · exact out (n + 1) w h hs v xs hv hl m hm hlt
end Go.Proofs.Ytokjkmibnjfkaaa
