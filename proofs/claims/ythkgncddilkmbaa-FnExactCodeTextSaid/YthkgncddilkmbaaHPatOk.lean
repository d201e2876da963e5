import Derived.Test.YthkgncddilkmbaaHPatN
import Derived.Test.YthkgncddilkmbaaHStrs
import Derived.Test.YthkgncddilkmbaaHPrim
/- PatOk of both sides, over the second engine. -/
namespace Go.Proofs.Ythkgncddilkmbaa
set_option linter.unusedVariables false
set_option linter.unusedSimpArgs false
open Go.RowKit
set_option maxRecDepth 100000 in
set_option maxHeartbeats 4000000 in
theorem c_l04PEnd (xs : List DPNode) (hl : xs.length ≤ 1000000000) (hks : ∀ x ∈ xs, x.kids.length ≤ 1000000000) :
    ∀ (N m : Nat), xs.length - m ≤ N → m ≤ 2000000000 → FCon Try.prog 49 [.ag [.sl 4 (xs.map DPNode.enc)], .s (.int .i64 m)] (fun r _ => r = .s (.int .i64 (endZ (pEnd (kidsP xs) N m)))) := by
  have hlen : (kidsP xs).length = xs.length := by simp
  have out : ∀ (N m : Nat), xs.length ≤ m → m ≤ 2000000000 → FCon Try.prog 49 [.ag [.sl 4 (xs.map DPNode.enc)], .s (.int .i64 m)] (fun r _ => r = .s (.int .i64 (endZ (pEnd (kidsP xs) N m)))) := by
    intro N m hm hm2
    rw [pEnd_out _ _ _ (by rw [hlen]; exact hm)]
    refine FCon.intro PM _ Try.func49 (by kernel_rfl) rfl _ Try.ntmps49 rfl [] (by decide +kernel) (by simp) (by simp) rfl (by first | rfl | simp only [go_sem]) ?_
    (have hWf := f0; repeat' (first | refine zS ?_ | exact zE | with_reducible apply And.intro | ((with_reducible intro hb0); revert hb0; with_reducible first | exact zB0 | refine zB fun hb => ?_ | fail) | ((with_reducible apply q_Meet); exact zM) | exact zC | refine zT ?_ | fail))
    all_goals (try rfl)
  intro N
  induction N with
  | zero => intro m hm hm2; exact out 0 m (by omega) hm2
  | succ N ih =>
    intro m hm hm2
    by_cases hlt : m < xs.length
    · have hx := getD_map DPNode.enc xs m hlt
      have he := DPNode.enc_eq xs[m]
      have hkl := hks _ (List.getElem_mem hlt)
      rw [pEnd_at _ _ _ (by rw [hlen]; exact hlt)]
      have hka : (kidsP xs)[m]'(by rw [hlen]; exact hlt) = xs[m].kids := by simp [kidsP]
      rw [hka]
      obtain ⟨R, hR⟩ : ∃ R, pKids (pEnd (kidsP xs) N) xs[m].kids (m + 1) = R := ⟨_, rfl⟩
      rw [hR]
      refine FCon.intro PM _ Try.func49 (by kernel_rfl) rfl _ Try.ntmps49 rfl [] (by decide +kernel) (by simp) (by simp) rfl (by first | rfl | simp only [go_sem]) ?_
      (have hWf := WFx.mk (And.intro @hx <| @he); repeat' (first | refine zS ?_ | exact zE | with_reducible apply And.intro | ((with_reducible intro hb0); revert hb0; with_reducible first | exact zB0 | refine zB fun hb => ?_ | fail) | ((with_reducible apply q_Meet); exact zM) | exact zC | refine zT ?_ | fail))
      refine AC_loop (fun n σ => ∃ j cur : Nat, j ≤ xs[m].kids.length ∧ n = xs[m].kids.length - j ∧ m < cur ∧ cur ≤ 2000000000 ∧ pKids (pEnd (kidsP xs) N) (xs[m].kids.drop j) cur = R ∧ σ.t 2 = .bx 2 0 ∧ σ.b 2 = some (.box [.sl 4 (xs.map DPNode.enc)]) ∧ σ.t 5 = .s (.int .i64 cur) ∧ σ.t 20 = intsD xs[m].kids ∧ σ.t 21 = .s (.int .i64 xs[m].kids.length) ∧ σ.t 22 = .s (.int .i64 j)) xs[m].kids.length ⟨0, m + 1, by omega, by omega, by omega, by omega, by rw [List.drop_zero]; exact hR, ?_⟩ ?_
      · simp only [go_sem, simprocAttr]
        simp
      · rintro n σ ⟨j, cur, hj, rfl, hcur, hc2, hp, h2, hb2, h5, h20, h21, h22⟩ K' hK
        by_cases hjl : j < xs[m].kids.length
        · have gx := getD_map iE xs[m].kids j hjl
          rw [drop_cons _ j hjl, pKids_cons] at hp
          by_cases hkc : xs[m].kids[j] = (cur : Int)
          · have hw : walkR (kidsP xs) N xs[m].kids[j] cur = pEnd (kidsP xs) N cur := by unfold walkR; rw [if_pos hkc]
            rw [hw] at hp
            have hkn : ((cur : Int) != (cur : Int)) = false := bne_self_eq_false _
            have hcc := ih cur (by omega) hc2
            cases hq : pEnd (kidsP xs) N cur with
            | none =>
              rw [hq] at hcc hp
              have hcc : FCon Try.prog 49 [.ag [.sl 4 (xs.map DPNode.enc)], .s (.int .i64 cur)] (fun r _ => r = .s (.int .i64 (-1))) := hcc
              (have hWf := WFx.mk (And.intro @h2 <| And.intro @hb2 <| And.intro @h5 <| And.intro @h20 <| And.intro @h21 <| And.intro @h22 <| And.intro @gx <| And.intro @iE_eq <| And.intro @hkc <| @hkn); repeat' (first | refine zS ?_ | exact zE | with_reducible apply And.intro | refine zK (hcc) ?_ | ((with_reducible intro hb0); revert hb0; with_reducible first | exact zB0 | refine zB fun hb => ?_ | fail) | ((with_reducible apply q_Meet); exact zM) | exact zC | refine zT ?_ | fail))
              all_goals (rw [← hp]; rfl)
            | some e1 =>
              rw [hq] at hcc hp
              have hcc : FCon Try.prog 49 [.ag [.sl 4 (xs.map DPNode.enc)], .s (.int .i64 cur)] (fun r _ => r = .s (.int .i64 (e1 : Int))) := hcc
              have hbd := pEnd_bd _ _ _ _ hq
              rw [hlen] at hbd
              (have hWf := WFx.mk (And.intro @h2 <| And.intro @hb2 <| And.intro @h5 <| And.intro @h20 <| And.intro @h21 <| And.intro @h22 <| And.intro @gx <| And.intro @iE_eq <| And.intro @hkc <| @hkn); repeat' (first | refine zS ?_ | exact zE | with_reducible apply And.intro | refine zK (hcc) ?_ | ((with_reducible intro hb0); revert hb0; with_reducible first | exact zB0 | refine zB fun hb => ?_ | fail) | ((with_reducible apply q_Meet); exact zM) | exact zC | refine zT ?_ | fail))
              refine hK (xs[m].kids.length - (j + 1)) _ (by omega) ⟨j + 1, e1, by omega, rfl, by omega, by omega, hp, ?_⟩
              simp only [go_sem, simprocAttr, h2, hb2, h5, h20, h21, h22]
              simp
          · have hw : walkR (kidsP xs) N xs[m].kids[j] cur = none := by unfold walkR; rw [if_neg hkc]
            rw [hw] at hp
            have hne : (xs[m].kids[j] != (cur : Int)) = true := by simpa using hkc
            (have hWf := WFx.mk (And.intro @h2 <| And.intro @hb2 <| And.intro @h5 <| And.intro @h20 <| And.intro @h21 <| And.intro @h22 <| And.intro @gx <| And.intro @iE_eq <| @hne); repeat' (first | refine zS ?_ | exact zE | with_reducible apply And.intro | ((with_reducible intro hb0); revert hb0; with_reducible first | exact zB0 | refine zB fun hb => ?_ | fail) | ((with_reducible apply q_Meet); exact zM) | exact zC | refine zT ?_ | fail))
            all_goals (rw [← hp]; rfl)
        · obtain rfl : j = xs[m].kids.length := by omega
          rw [List.drop_eq_nil_of_le (Nat.le_refl _)] at hp
          (have hWf := WFx.mk (And.intro @h2 <| And.intro @hb2 <| And.intro @h5 <| And.intro @h20 <| And.intro @h21 <| @h22); repeat' (first | refine zS ?_ | exact zE | with_reducible apply And.intro | ((with_reducible intro hb0); revert hb0; with_reducible first | exact zB0 | refine zB fun hb => ?_ | fail) | ((with_reducible apply q_Meet); exact zM) | exact zC | refine zT ?_ | fail))
          rw [← hp]; rfl
    · exact out (N + 1) m (by omega) hm2
set_option maxRecDepth 100000 in
set_option maxHeartbeats 8000000 in
theorem c_specPatOk (xs : List DPNode) (ho : ∀ x ∈ xs, x.ok) (hs : smS DPNode.sm xs) : FCon Try.prog 28 [.ag [.sl 4 (xs.map DPNode.enc)]] (fun r _ => r = .s (.bool (patM xs))) := by
  have hl := hs.1
  have hkl : ∀ x ∈ xs, x.kids.length ≤ 1048576 := fun x hx => (hs.2 x hx).2.1
  by_cases h600 : 1 ≤ xs.length ∧ xs.length ≤ 600
  · obtain ⟨h6, h7⟩ := h600
    refine FCon.intro PM _ Try.func28 (by kernel_rfl) rfl _ Try.ntmps28 rfl [(11, 21, [], [], (lin [] [0, 1, 2, 3, 4, 5, 6, 7, 8, 9, 10, 11, 12, 13, 14, 15, 16, 17, 18, 19, 20])), (14, 5, [], [], (lin [] [0, 1, 2, 3, 4]))] (by decide +kernel) (by simp) (by simp) rfl (by first | rfl | simp only [go_sem]) ?_
    (have hWf := f0; repeat' (first | refine zS ?_ | exact zE | with_reducible apply And.intro | ((with_reducible intro hb0); revert hb0; with_reducible first | exact zB0 | refine zB fun hb => ?_ | fail) | ((with_reducible apply q_Meet); exact zM) | exact zC | refine zT ?_ | fail))
    refine AC_loop (fun n σ => ∃ k : Nat, k ≤ xs.length ∧ n = xs.length - k ∧ σ.t 1 = .bx 1 0 ∧ σ.b 1 = some (.box [.sl 4 (xs.map DPNode.enc)]) ∧ σ.t 17 = .sl 4 (xs.map DPNode.enc) ∧ σ.t 18 = .s (.int .i64 xs.length) ∧ σ.t 19 = .s (.int .i64 k) ∧ ∀ j (hj : j < xs.length), j < k → goodAt xs j hj = true) xs.length ⟨0, by omega, by omega, ?_⟩ ?_
    · simp only [go_sem, simprocAttr, Int.natCast_zero]
      simp
    · rintro n σ ⟨k, hk, rfl, h1, hb1, h17, h18, h19, hg⟩ K' hK
      by_cases hlt : k < xs.length
      · have hx := getD_map DPNode.enc xs k hlt
        have he := DPNode.enc_eq xs[k]
        have hmem := List.getElem_mem hlt
        have hn := c_l04PNode xs xs[k] (ho _ hmem) hl (hkl _ hmem)
        cases hpn : pnodeM xs xs[k] with
        | false =>
          rw [hpn] at hn
          (have hWf := WFx.mk (And.intro @h1 <| And.intro @hb1 <| And.intro @h17 <| And.intro @h18 <| And.intro @h19 <| And.intro @hx <| @he); repeat' (first | refine zS ?_ | exact zE | with_reducible apply And.intro | refine zK (hn) ?_ | ((with_reducible intro hb0); revert hb0; with_reducible first | exact zB0 | refine zB fun hb => ?_ | fail) | ((with_reducible apply q_Meet); exact zM) | exact zC | refine zT ?_ | fail))
          all_goals exact sB (patM_bad hlt (good_false1 hlt hpn)).symm
        | true =>
          rw [hpn] at hn
          (have hWf := WFx.mk (And.intro @h1 <| And.intro @hb1 <| And.intro @h17 <| And.intro @h18 <| And.intro @h19 <| And.intro @hx <| @he); repeat' (first | refine zS ?_ | exact zE | with_reducible apply And.intro | refine zK (hn) ?_ | ((with_reducible intro hb0); revert hb0; with_reducible first | exact zB0 | refine zB fun hb => ?_ | fail) | ((with_reducible apply q_Meet); exact zM) | exact zC | refine zT ?_ | fail))
          refine AC_loop (fun n σ => ∃ j : Nat, j ≤ k ∧ n = k - j ∧ σ.t 1 = .bx 1 0 ∧ σ.b 1 = some (.box [.sl 4 (xs.map DPNode.enc)]) ∧ σ.t 3 = .s (.int .i64 k) ∧ σ.t 4 = .bx 4 0 ∧ σ.b 4 = some (.box [.s (.int .i64 xs[k].kind), .s (.int .i64 xs[k].n), .s (.string xs[k].s), .sl 1 (xs[k].kids.map iE)]) ∧ σ.t 5 = .s (.int .i64 j) ∧ σ.t 17 = .sl 4 (xs.map DPNode.enc) ∧ σ.t 18 = .s (.int .i64 xs.length) ∧ σ.t 19 = .s (.int .i64 k) ∧ ∀ i (hi : i < j) (hk : i < xs.length), dupB xs[i] xs[k] = false) k ⟨0, by omega, by omega, ?_⟩ ?_
          · simp only [go_sem, simprocAttr, h1, hb1, h17, h18, h19, Int.natCast_zero]
            simp
          · rintro n σ ⟨j, hj, rfl, g1, gb1, g3, g4, gb4, g5, g17, g18, g19, hno⟩ K'' hK''
            by_cases hjl : j < k
            · have gx := getD_map DPNode.enc xs j (by omega)
              have ge := DPNode.enc_eq (xs[j]'(by omega))
              (have hWf := WFx.mk (And.intro @g1 <| And.intro @gb1 <| And.intro @g3 <| And.intro @g4 <| And.intro @gb4 <| And.intro @g5 <| And.intro @g17 <| And.intro @g18 <| And.intro @g19 <| And.intro @gx <| @ge); repeat' (first | refine zS ?_ | exact zE | with_reducible apply And.intro | ((with_reducible intro hb0); revert hb0; with_reducible first | exact zB0 | refine zB fun hb => ?_ | fail) | ((with_reducible apply q_Meet); exact zM) | exact zC | refine zT ?_ | fail))
              · exact fun h => ⟨h, h, by omega, by omega⟩
              · exact fun h => ⟨h, h, by omega, by omega⟩
              · refine sB (patM_bad hlt (good_false2 hlt hjl ?_)).symm
                unfold dupB
                rw [hb.1.1, hb.1.2, toL_inj hb.2]; simp
              · refine hK'' (k - (j + 1)) _ (by omega) ⟨j + 1, by omega, rfl, ?_⟩
                simp only [go_sem, simprocAttr, g1, gb1, g3, g4, gb4, g17, g18, g19, Int.natCast_succ]
                intro i hi hik
                rcases Nat.lt_or_ge i j with q | q
                · exact hno i q hik
                · obtain rfl : i = j := by omega
                  unfold dupB
                  rcases hb with (hb | hb) | hb
                  · rw [show (xs[k].kind == 2) = false by simpa using hb]; rfl
                  · rw [show (xs[i].kind == 2) = false by simpa using hb]; simp
                  · rw [decide_eq_false (fun e => hb (by rw [e]))]; simp
            · obtain rfl : j = k := by omega
              (have hWf := WFx.mk (And.intro @g1 <| And.intro @gb1 <| And.intro @g3 <| And.intro @g4 <| And.intro @gb4 <| And.intro @g5 <| And.intro @g17 <| And.intro @g18 <| @g19); repeat' (first | refine zS ?_ | exact zE | with_reducible apply And.intro | ((with_reducible intro hb0); revert hb0; with_reducible first | exact zB0 | refine zB fun hb => ?_ | fail) | ((with_reducible apply q_Meet); exact zM) | exact zC | refine zT ?_ | fail))
              refine hK (xs.length - (j + 1)) _ (by omega) ⟨j + 1, by omega, rfl, ?_⟩
              simp only [go_sem, simprocAttr, g1, gb1, g17, g18, g19, Int.natCast_succ]
              exact good_upto hg hlt (good_true hlt hpn fun i hi => hno i hi (by omega))
      · obtain rfl : k = xs.length := by omega
        (have hWf := WFx.mk (And.intro @h1 <| And.intro @hb1 <| And.intro @h17 <| And.intro @h18 <| @h19); repeat' (first | refine zS ?_ | exact zE | with_reducible apply And.intro | ((with_reducible apply q_CallG); refine zG (c_l04PEnd xs (by omega) (fun x hx => by have := hkl x hx; omega) xs.length 0 (by omega) (by omega)) ?_) | ((with_reducible apply q_CallQ); refine CallQ_mk (c_l04PEnd xs (by omega) (fun x hx => by have := hkl x hx; omega) xs.length 0 (by omega) (by omega)) ?_) | ((with_reducible intro hb0); revert hb0; with_reducible first | exact zB0 | refine zB fun hb => ?_ | fail) | ((with_reducible apply q_Meet); exact zM) | exact zC | refine zT ?_ | fail))
        refine sB ?_
        have hall : (List.finRange xs.length).all (fun i => goodAt xs i.1 i.2) = true := fin_all.2 fun i => hg i.1 i.2 i.2
        unfold patM
        rw [hall, decide_eq_true h6, decide_eq_true h7, endZ_len]
        unfold orderM
        rw [kidsP_len]; rfl
  · have hb : patM xs = false := by
      unfold patM
      by_cases q : 1 ≤ xs.length
      · rw [decide_eq_false (p := xs.length ≤ 600) (by omega)]; simp
      · rw [decide_eq_false q]; simp
    rw [hb]
    refine FCon.intro PM _ Try.func28 (by kernel_rfl) rfl _ Try.ntmps28 rfl [(11, 21, [], [], (lin [] [0, 1, 2, 3, 4, 5, 6, 7, 8, 9, 10, 11, 12, 13, 14, 15, 16, 17, 18, 19, 20])), (14, 5, [], [], (lin [] [0, 1, 2, 3, 4]))] (by decide +kernel) (by simp) (by simp) rfl (by first | rfl | simp only [go_sem]) ?_
    by_cases q : xs.length < 1
    · have e1 : decide ((xs.length : Int) < 1) = true := decide_eq_true (by omega)
      (have hWf := WFx.mk @e1; repeat' (first | refine zS ?_ | exact zE | with_reducible apply And.intro | ((with_reducible intro hb0); revert hb0; with_reducible first | exact zB0 | refine zB fun hb => ?_ | fail) | ((with_reducible apply q_Meet); exact zM) | exact zC | refine zT ?_ | fail))
    · have e1 : decide ((xs.length : Int) < 1) = false := decide_eq_false (by omega)
      have e2 : decide ((xs.length : Int) > 600) = true := decide_eq_true (by omega)
      (have hWf := WFx.mk (And.intro @e1 <| @e2); repeat' (first | refine zS ?_ | exact zE | with_reducible apply And.intro | ((with_reducible intro hb0); revert hb0; with_reducible first | exact zB0 | refine zB fun hb => ?_ | fail) | ((with_reducible apply q_Meet); exact zM) | exact zC | refine zT ?_ | fail))
set_option maxRecDepth 100000 in
set_option maxHeartbeats 8000000 in
theorem c_implPatOk (xs : List DPNode) (ho : ∀ x ∈ xs, x.ok) (hs : smS DPNode.sm xs) : FCon Try.prog 38 [.ag [.sl 4 (xs.map DPNode.enc)]] (fun r _ => r = .s (.bool (patM xs))) := by
  have hl := hs.1
  have hkl : ∀ x ∈ xs, x.kids.length ≤ 1048576 := fun x hx => (hs.2 x hx).2.1
  refine FCon.intro PM _ Try.func38 (by kernel_rfl) rfl _ Try.ntmps38 rfl [] (by decide +kernel) (by simp) (by simp) rfl (by first | rfl | simp only [go_sem]) ?_
  (refine AC_go ?_; simp only [go_sem, simprocAttr]; (have hWf := f0; repeat' (first | refine zY ?_ | with_reducible apply And.intro | ((with_reducible intro hb0); revert hb0; with_reducible first | exact zB0 | refine zB fun hb => ?_ | fail) | ((with_reducible apply q_Meet); exact zM) | exact zC | refine zT ?_ | fail)))
  refine AC_fr 1 (.box [.sl 4 (xs.map DPNode.enc)]) (by simp only [go_sem, simprocAttr]) rfl ?_
  (have hWf := f0; repeat' (first | refine zS ?_ | exact zE | with_reducible apply And.intro | refine zK (c_within xs.length 1 600) ?_ | ((with_reducible apply q_CallG); refine zG (c_inOrderP xs ho (by omega) (fun x hx => by have := hkl x hx; omega)) ?_) | ((with_reducible apply q_CallQ); refine CallQ_mk (c_inOrderP xs ho (by omega) (fun x hx => by have := hkl x hx; omega)) ?_) | ((with_reducible intro hb0); revert hb0; with_reducible first | exact zB0 | refine zB fun hb => ?_ | fail) | ((with_reducible apply q_Meet); exact zM) | exact zC | refine zT ?_ | fail))
  · refine sB ?_
    unfold patM
    rcases hb with (hb | hb) | hb
    · rw [decide_eq_false (by omega : ¬ 1 ≤ xs.length)]; rfl
    · rw [decide_eq_false (by omega : ¬ xs.length ≤ 600)]; simp
    · rw [hb]; simp
  · obtain ⟨⟨h6, h7⟩, hord⟩ : (1 ≤ xs.length ∧ xs.length ≤ 600) ∧ orderM (kidsP xs) = true := by
      exact ⟨⟨by omega, by omega⟩, hb.2⟩
    refine AC_loop (fun n σ => ∃ (k : Nat) (ns : List ByteArray), k ≤ xs.length ∧ n = xs.length - k ∧ NamesAt xs k ns ∧ σ.t 1 = .pt [.sl 4 (xs.map DPNode.enc)] ∧ σ.t 3 = .bs 19 1 ns.length ∧ σ.b 19 = some (.arr 9 1 (ns.map stE)) ∧ σ.t 21 = .sl 4 (xs.map DPNode.enc) ∧ σ.t 22 = .s (.int .i64 xs.length) ∧ σ.t 23 = .s (.int .i64 k) ∧ ∀ j (hj : j < xs.length), j < k → goodAt xs j hj = true) xs.length ⟨0, [], by omega, by omega, NamesAt.zero xs, ?_⟩ ?_
    · simp only [go_sem, simprocAttr, Int.natCast_zero]
      simp
    · rintro n σ ⟨k, ns, hk, rfl, hns, h1, h3, hb3, h21, h22, h23, hg⟩ K' hK
      have hnl := hns.1
      by_cases hlt : k < xs.length
      · have hx := getD_map DPNode.enc xs k hlt
        have he := DPNode.enc_eq xs[k]
        have hmem := List.getElem_mem hlt
        have hn := c_patNodeOk xs xs[k] (ho _ hmem) (hkl _ hmem) (fun h1 => order_inP hord k hlt h1)
        cases hpn : pnodeM xs xs[k] with
        | false =>
          rw [hpn] at hn
          (have hWf := WFx.mk (And.intro @h1 <| And.intro @h3 <| And.intro @hb3 <| And.intro @h21 <| And.intro @h22 <| And.intro @h23 <| And.intro @hx <| And.intro @he <| @stE_frz); repeat' (first | refine zS ?_ | exact zE | with_reducible apply And.intro | refine zK (hn) ?_ | refine zK (c_Contains_str ns xs[k].s) ?_ | ((with_reducible intro hb0); revert hb0; with_reducible first | exact zB0 | refine zB fun hb => ?_ | fail) | ((with_reducible apply q_Meet); exact zM) | exact zC | refine zT ?_ | fail))
          all_goals exact sB (patM_bad hlt (good_false1 hlt hpn)).symm
        | true =>
          rw [hpn] at hn
          cases h2 : (xs[k].kind == 2) with
          | false =>
            have h2' : xs[k].kind ≠ 2 := by simpa using h2
            (have hWf := WFx.mk (And.intro @h1 <| And.intro @h3 <| And.intro @hb3 <| And.intro @h21 <| And.intro @h22 <| And.intro @h23 <| And.intro @hx <| And.intro @he <| And.intro @h2 <| @stE_frz); repeat' (first | refine zS ?_ | exact zE | with_reducible apply And.intro | refine zK (hn) ?_ | refine zK (c_Contains_str ns xs[k].s) ?_ | ((with_reducible intro hb0); revert hb0; with_reducible first | exact zB0 | refine zB fun hb => ?_ | fail) | ((with_reducible apply q_Meet); exact zM) | exact zC | refine zT ?_ | fail))
            refine hK (xs.length - (k + 1)) _ (by omega) ⟨k + 1, ns, by omega, rfl, hns.skip hlt h2', ?_⟩
            simp only [go_sem, simprocAttr, h1, h3, hb3, h21, h22, Int.natCast_succ]
            exact good_upto hg hlt (hns.none hlt hpn fun h => absurd h h2')
          | true =>
            have h2' : xs[k].kind = 2 := by simpa using h2
            cases hi : inL xs[k].s ns with
            | true =>
              (have hWf := WFx.mk (And.intro @h1 <| And.intro @h3 <| And.intro @hb3 <| And.intro @h21 <| And.intro @h22 <| And.intro @h23 <| And.intro @hx <| And.intro @he <| And.intro @h2 <| And.intro @hi <| @stE_frz); repeat' (first | refine zS ?_ | exact zE | with_reducible apply And.intro | refine zK (hn) ?_ | refine zK (c_Contains_str ns xs[k].s) ?_ | ((with_reducible intro hb0); revert hb0; with_reducible first | exact zB0 | refine zB fun hb => ?_ | fail) | ((with_reducible apply q_Meet); exact zM) | exact zC | refine zT ?_ | fail))
              all_goals exact sB (patM_bad hlt (hns.dup hlt h2' hi)).symm
            | false =>
              (have hWf := WFx.mk (And.intro @h1 <| And.intro @h3 <| And.intro @hb3 <| And.intro @h21 <| And.intro @h22 <| And.intro @h23 <| And.intro @hx <| And.intro @he <| And.intro @h2 <| And.intro @hi <| @stE_frz); repeat' (first | refine zS ?_ | exact zE | with_reducible apply And.intro | refine zK (hn) ?_ | refine zK (c_Contains_str ns xs[k].s) ?_ | ((with_reducible intro hb0); revert hb0; with_reducible first | exact zB0 | refine zB fun hb => ?_ | fail) | ((with_reducible apply q_Meet); exact zM) | exact zC | refine zT ?_ | fail))
              refine hK (xs.length - (k + 1)) _ (by omega) ⟨k + 1, ns ++ [xs[k].s], by omega, rfl, hns.add hlt h2', ?_⟩
              simp only [go_sem, simprocAttr, h1, h3, hb3, h21, h22, Int.natCast_succ, List.map_append, List.length_append, stE_eq]
              exact good_upto hg hlt (hns.none hlt hpn fun _ => hi)
      · obtain rfl : k = xs.length := by omega
        (have hWf := WFx.mk (And.intro @h1 <| And.intro @h3 <| And.intro @hb3 <| And.intro @h21 <| And.intro @h22 <| @h23); repeat' (first | refine zS ?_ | exact zE | with_reducible apply And.intro | ((with_reducible intro hb0); revert hb0; with_reducible first | exact zB0 | refine zB fun hb => ?_ | fail) | ((with_reducible apply q_Meet); exact zM) | exact zC | refine zT ?_ | fail))
        refine sB ?_
        have hall : (List.finRange xs.length).all (fun i => goodAt xs i.1 i.2) = true := fin_all.2 fun i => hg i.1 i.2 i.2
        unfold patM
        rw [hall, decide_eq_true h6, decide_eq_true h7, hord]; rfl
end Go.Proofs.Ythkgncddilkmbaa
