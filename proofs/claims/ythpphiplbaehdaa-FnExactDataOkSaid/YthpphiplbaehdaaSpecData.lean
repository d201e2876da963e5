/- DataOk: the reference's text. -/
import Derived.Test.YthpphiplbaehdaaNodeData
import Derived.Test.YthpphiplbaehdaaEndData
import Derived.Deep.CutRange
namespace Go.Proofs.Ythpphiplbaehdaa
set_option linter.unusedVariables false
set_option linter.unusedSimpArgs false
open Go.RowKit
theorem upto_succ {α : Type} {p : α → Bool} {xs : List α} {k : Nat} (h : ∀ j (hj : j < xs.length), j < k → p xs[j] = true) (hlt : k < xs.length) (hk : p xs[k] = true) : ∀ j (hj : j < xs.length), j < k + 1 → p xs[j] = true := fun j hj hjk => by
  rcases Nat.lt_or_ge j k with q | q
  · exact h j hj q
  · obtain rfl : j = k := by omega
    exact hk
def dnodeB (p : Bool) (x : DDNode) : Bool :=
  if x.kind = 3 then ((x.kids.length : Int) == 0) && x.s.toList.isEmpty && (decide (-4611686018427387904 ≤ x.n) && decide (x.n ≤ 4611686018427387903))
  else if x.kind = 2 then ((x.kids.length : Int) == 0) && (x.n == 0)
  else if x.kind = 6 then ((x.kids.length : Int) == 0) && (x.n == 0) && x.s.toList.isEmpty
  else if x.kind = 5 then ((x.kids.length : Int) == 2) && (x.n == 0) && x.s.toList.isEmpty
  else if x.kind = 4 then (x.n == 0) && shapeM x.s x.kids.length p
  else false
theorem dnodeB_eq (xs : List DDNode) (x : DDNode) : dnodeM xs x = dnodeB (pairM xs x.kids) x := rfl
def dataM (xs : List DDNode) : Bool := decide (1 ≤ xs.length) && decide (xs.length ≤ 600) && xs.all (dnodeM xs) && orderM (kidsOf xs)
theorem dAll_false {xs : List DDNode} {k : Nat} (h : k < xs.length) (hb : dnodeM xs xs[k] = false) : dataM xs = false := by
  have : xs.all (dnodeM xs) = false := by rw [List.all_eq_false]; exact ⟨_, List.getElem_mem h, by rw [hb]; simp⟩
  unfold dataM
  rw [this, Bool.and_false, Bool.false_and]
set_option maxRecDepth 100000 in
set_option maxHeartbeats 8000000 in
theorem spec_DataOk (w : World) (h : Hp) (hs : Sub h w) (v : Value) (xs : List DDNode) (hv : DDNodeS h v xs) (hl : xs.length ≤ 1000000000) (hks : ∀ k (h : k < xs.length), xs[k].kids.length ≤ 1000000000) :
    Calls Try.prog 29 #[.agg #[v]] w fun e w' => e = .returned (.bool (dataM xs)) ∧ Below w.heap.size w w' := by
  have hm := Lib.hid hv.mem
  have HV := Lib.hid hv
  have KS := Lib.hid hks
  clear hks
  obtain ⟨a, c, rfl, hc1, hc2, -⟩ := hv
  unfold maxLen at hc2
  by_cases h600 : 1 ≤ xs.length ∧ xs.length ≤ 600
  · obtain ⟨h6, h7⟩ := h600
    obtain ⟨bq, hbq⟩ : ∃ b, dataM xs = b := ⟨_, rfl⟩
    have HB := Lib.hid (show ∀ k (h : k < xs.length), dnodeM xs xs[k] = false → bq = false from fun k h hb => hbq.symm.trans (dAll_false h hb))
    have HG := Lib.hid (show (∀ k (h : k < xs.length), dnodeM xs xs[k] = true) → bq = orderM (kidsOf xs) from fun hh => by
      rw [← hbq]
      unfold dataM
      have : xs.all (dnodeM xs) = true := by rw [List.all_eq_true]; intro x hx; obtain ⟨j, hj, rfl⟩ := List.getElem_of_mem hx; exact hh j hj
      rw [this, decide_eq_true h6, decide_eq_true h7]; rfl)
    rw [hbq]
    clear hbq
    go_enter Try.func29, Try.ntmps29
    go_wp2_with fail
    go_loopw [20] (fun i wr => ∃ (k : Nat), k ≤ xs.length ∧ i = .int .i64 k ∧ (∀ j (h : j < xs.length), j < k → dnodeM xs xs[j] = true) ∧ Below (w.alloc (.cells #[.slice a xs.length c] 52)).heap.size (w.alloc (.cells #[.slice a xs.length c] 52)) wr) (fun i _ => xs.length - (intOf i).toNat)
    case atStart => exact ⟨0, by omega, rfl, fun _ _ hj => absurd hj (by omega), Below.refl _ _⟩
    case round =>
      obtain ⟨k, hk, rfl, hall, hbel⟩ := hrel
      have hsub : Sub h wr := (hs.alloc _).below hbel
      obtain ⟨kc, kf⟩ := bcell hbel
      have kb := kc w.heap.size 0 (by simp)
      rw [new_cell0] at kb
      have hsz : w.heap.size < wr.heap.size := World.block_lt_of_cell? _ _ kb
      have HBel := Lib.hid hbel
      have hb0 := Lib.hid (below_chain hbel ((Below.refl w.heap.size w).alloc (Nat.le_refl _) _) (by simp))
      have HAll := Lib.hid hall
      clear kc kf hbel hall
      by_cases hlt : k < xs.length
      · obtain ⟨bl, off, rfl, hcell⟩ := HV.out.cell hlt
        obtain ⟨v1, hrel, hcs⟩ := hcell k hlt
        obtain ⟨c0, c1, c2, c3⟩ := hcs wr hsub
        have hx := hm.out _ (List.getElem_mem hlt)
        have hkl := KS.out k hlt
        have hrel' : IntS h v1 xs[k].kids := hrel
        have hbad := HB.out k hlt
        have hgood := upto_succ HAll.out hlt
        rw [dnodeB_eq] at hbad hgood
        have HC := Lib.hid hcell
        clear hrel hcs hcell
        obtain ⟨x, hxe⟩ : ∃ x, x = xs[k] := ⟨_, rfl⟩
        rw [← hxe] at c0 c1 c2 hx hkl hrel' hbad hgood
        clear hxe
        obtain ⟨kind, n, s, kids⟩ := x
        obtain ⟨hkk, hn, hss⟩ := hx
        unfold I64 at hkk hn
        dsimp only at c0 c1 c2 c3 hkk hn hss hkl hrel' hbad hgood
        have HV1 := Lib.hid hrel'
        have hmk := Lib.hid hrel'.mem
        obtain ⟨a1, d1, rfl, hd1, hd2, -⟩ := hrel'
        unfold maxLen at hd2
        obtain ⟨p, hp⟩ : ∃ p, pairM xs kids = p := ⟨_, rfl⟩
        rw [hp] at hbad hgood
        have HPP := Lib.hid hp
        have HBad := Lib.hid hbad
        have HGood := Lib.hid hgood
        clear hp hbad hgood
        go_wp2_with fail
        go_cut [4, 5, 20] from 20 to 137 (fun pt cc ix wx => pt = .pointer (some ⟨wr.heap.size, 0, none⟩) ∧ cc = .bool p ∧ ix = .int .i64 k ∧ ∃ nq, wx = (wr.alloc (.cells #[.int .i64 kind, .int .i64 n, .string s, .slice a1 kids.length d1] 129)).drewN nq)
        case first =>
          have MEET := Lib.hid HPP.out
          by_cases h1 : kids.length = 1
          · have hki := hmk.out _ (List.getElem_mem (show 0 < kids.length by omega))
            obtain ⟨bl', off', rfl, hcell'⟩ := HV1.out.cell (i := 0) (by omega)
            have e0 := hcell' 0 (by omega) (wr.alloc (.cells #[.int .i64 kind, .int .i64 n, .string s, .slice (some ⟨bl', off', none⟩) kids.length d1] 129)) (hsub.alloc _)
            rw [Nat.add_zero] at e0
            have hkk1 : (kids.length : Int) = 1 := by omega
            obtain ⟨z, hz⟩ : ∃ z, z = kids[0]'(by omega) := ⟨_, rfl⟩
            have hout : z < 0 ∨ (xs.length : Int) ≤ z → pairM xs kids = false := fun e => pairM_out xs kids h1 (by rw [← hz]; exact e)
            have hat : ∀ (kn : Nat) (hk : kn < xs.length), z = (kn : Int) → pairM xs kids = (xs[kn].kind == 5) := fun kn hk e => pairM_at xs kids h1 kn hk (hz.symm.trans e)
            rw [← hz] at e0 hki
            unfold I64 at hki
            clear hz h1 hcell'
            by_cases hz0 : z < 0
            · have HO := Lib.hid (hout (.inl hz0))
              have g1 : decide (0 ≤ z) = false := by simpa using hz0
              clear hout hat
              go_quiet (fail)
              go_wp2_with fail
              go_meet
              exact ⟨rfl, congrArg Value.bool (HO.out.symm.trans MEET.out), rfl, _, rfl⟩
            · by_cases hz1 : z < (xs.length : Int)
              · obtain ⟨kn, rfl⟩ : ∃ kn : Nat, z = kn := ⟨z.toNat, by omega⟩
                have hkn : kn < xs.length := by omega
                have HA := hat kn hkn rfl
                obtain ⟨v2, -, hcs2⟩ := HC.out kn hkn
                obtain ⟨e1, -⟩ := hcs2 (wr.alloc (.cells #[.int .i64 kind, .int .i64 n, .string s, .slice (some ⟨bl', off', none⟩) kids.length d1] 129)) (hsub.alloc _)
                have g1 : (0 : Int) ≤ (kn : Int) := by omega
                clear hout hat hcs2 hz0
                cases hq : (xs[kn].kind == 5)
                all_goals
                  rw [hq] at HA
                  have HAA := Lib.hid HA
                  clear HA
                  go_quiet (fail)
                  go_wp2_with fail
                  go_meet
                  exact ⟨rfl, congrArg Value.bool (HAA.out.symm.trans MEET.out), rfl, _, rfl⟩
              · have HO := Lib.hid (hout (.inr (by omega)))
                have g1 : (0 : Int) ≤ z := by omega
                have g2 : decide (z < (xs.length : Int)) = false := by simpa using hz1
                clear hout hat hz0
                go_quiet (fail)
                go_wp2_with fail
                go_meet
                exact ⟨rfl, congrArg Value.bool (HO.out.symm.trans MEET.out), rfl, _, rfl⟩
          · have HO := Lib.hid (pairM_no xs kids h1)
            have hkk1 : ((kids.length : Int) == 1) = false := by simpa using (show ¬ (kids.length : Int) = 1 by omega)
            go_quiet (fail)
            go_wp2_with fail
            go_meet
            exact ⟨rfl, congrArg Value.bool (HO.out.symm.trans MEET.out), rfl, _, rfl⟩
        case rest =>
          obtain ⟨rfl, rfl, rfl, nq, rfl⟩ := hcut
          have HE := Lib.hid (show ((kids.length : Int) == 0) = decide (kids = []) by cases kids <;> simp <;> omega)
          by_cases h3 : kind = 3
          · subst h3
            by_cases hin : -4611686018427387904 ≤ n ∧ n ≤ 4611686018427387903
            · have hw : wrap63 n = n := (wrap63_self_iff n).2 hin
              obtain ⟨i0, i1⟩ := hin
              have HW := Lib.hid hw
              clear hw
              cases hse : s.toList.isEmpty
              all_goals
                go_wp2_with fail
                (first | go_region_law (first | (refine step_guard rfl ?_; go_simp; go_at_call 81; refine (spec_Wrap _ _).mono ?_; rw [HW.out]; rintro e w2 ⟨rfl, rfl⟩; dsimp only)) | fail)
                all_goals
                  go_wp2_with fail
                  all_goals first
                    | (go_ret; refine ⟨ret_b (HBad.out ?_).symm, (by repeat (first | exact HBel.out.alloc HBel.out.size _ | exact hb0.out.alloc hb0.out.size _ | refine below_drewI ?_ _ | refine Below.drew ?_))⟩; simp only [dnodeB, HE.out]; clear HBad HGood HV1 hmk HPP HC HV KS HB HG HAll hb0 HBel hsub hm kb c0 c1 c2 c3 HE; first | (simp_all; done) | grind)
                    | (refine ⟨⟨k + 1, by omega, by go_num, HGood.out ?_, (by repeat (first | exact HBel.out.alloc HBel.out.size _ | exact hb0.out.alloc hb0.out.size _ | refine below_drewI ?_ _ | refine Below.drew ?_))⟩, by simp [intOf]; omega⟩; simp only [dnodeB, HE.out]; clear HBad HGood HV1 hmk HPP HC HV KS HB HG HAll hb0 HBel hsub hm kb c0 c1 c2 c3 HE; first | (simp_all; done) | grind)
            · obtain ⟨q, hq⟩ : ∃ q, wrap63 n = q := ⟨_, rfl⟩
              have hne : ¬ q = n := fun e => hin ((wrap63_self_iff n).1 (hq.trans e))
              have hqn : (q == n) = false := by simpa using hne
              have HW := Lib.hid hq
              clear hq
              go_wp2_with fail
              (first | go_region_law (first | (refine step_guard rfl ?_; go_simp; go_at_call 81; refine (spec_Wrap _ _).mono ?_; rw [HW.out]; rintro e w2 ⟨rfl, rfl⟩; dsimp only)) | fail)
              all_goals
                go_wp2_with fail
                all_goals first
                  | (go_ret; refine ⟨ret_b (HBad.out ?_).symm, (by repeat (first | exact HBel.out.alloc HBel.out.size _ | exact hb0.out.alloc hb0.out.size _ | refine below_drewI ?_ _ | refine Below.drew ?_))⟩; simp only [dnodeB, HE.out]; clear HBad HGood HV1 hmk HPP HC HV KS HB HG HAll hb0 HBel hsub hm kb c0 c1 c2 c3 HE; first | (simp_all; done) | grind)
                  | (refine ⟨⟨k + 1, by omega, by go_num, HGood.out ?_, (by repeat (first | exact HBel.out.alloc HBel.out.size _ | exact hb0.out.alloc hb0.out.size _ | refine below_drewI ?_ _ | refine Below.drew ?_))⟩, by simp [intOf]; omega⟩; simp only [dnodeB, HE.out]; clear HBad HGood HV1 hmk HPP HC HV KS HB HG HAll hb0 HBel hsub hm kb c0 c1 c2 c3 HE; first | (simp_all; done) | grind)
          · by_cases h4 : kind = 4
            · subst h4
              go_wp2_with (first | (go_at_call 82; refine (spec_l04ConOk _ s hss kids.length p).mono ?_; rintro e w' ⟨rfl, rfl⟩))
              all_goals first
                | (go_ret; refine ⟨ret_b (HBad.out ?_).symm, (by repeat (first | exact HBel.out.alloc HBel.out.size _ | exact hb0.out.alloc hb0.out.size _ | refine below_drewI ?_ _ | refine Below.drew ?_))⟩; simp only [dnodeB, HE.out]; clear HBad HGood HV1 hmk HPP HC HV KS HB HG HAll hb0 HBel hsub hm kb c0 c1 c2 c3 HE; first | (simp_all; done) | grind)
                | (refine ⟨⟨k + 1, by omega, by go_num, HGood.out ?_, (by repeat (first | exact HBel.out.alloc HBel.out.size _ | exact hb0.out.alloc hb0.out.size _ | refine below_drewI ?_ _ | refine Below.drew ?_))⟩, by simp [intOf]; omega⟩; simp only [dnodeB, HE.out]; clear HBad HGood HV1 hmk HPP HC HV KS HB HG HAll hb0 HBel hsub hm kb c0 c1 c2 c3 HE; first | (simp_all; done) | grind)
            · rcases (show kind = 2 ∨ kind = 6 ∨ kind = 5 ∨ (¬ kind = 2 ∧ ¬ kind = 6 ∧ ¬ kind = 5) by omega) with rfl | rfl | rfl | ⟨k2, k6, k5⟩
              all_goals
                go_wp2_with fail
                all_goals first
                  | (go_ret; refine ⟨ret_b (HBad.out ?_).symm, (by repeat (first | exact HBel.out.alloc HBel.out.size _ | exact hb0.out.alloc hb0.out.size _ | refine below_drewI ?_ _ | refine Below.drew ?_))⟩; simp only [dnodeB, HE.out]; clear HBad HGood HV1 hmk HPP HC HV KS HB HG HAll hb0 HBel hsub hm kb c0 c1 c2 c3 HE; first | (simp_all; done) | grind)
                  | (refine ⟨⟨k + 1, by omega, by go_num, HGood.out ?_, (by repeat (first | exact HBel.out.alloc HBel.out.size _ | exact hb0.out.alloc hb0.out.size _ | refine below_drewI ?_ _ | refine Below.drew ?_))⟩, by simp [intOf]; omega⟩; simp only [dnodeB, HE.out]; clear HBad HGood HV1 hmk HPP HC HV KS HB HG HAll hb0 HBel hsub hm kb c0 c1 c2 c3 HE; first | (simp_all; done) | grind)
      · obtain rfl : k = xs.length := by omega
        have HGG := Lib.hid (HG.out (fun j hj => HAll.out j hj hj))
        have HEnd := Lib.hid (fun (w : World) (hs : Sub h w) => spec_l07End xs.length w h hs _ xs HV.out hl KS.out 0 (by omega) (by omega))
        have HZ := Lib.hid (endZ_len (pEnd (kidsOf xs) xs.length 0) xs.length)
        go_wp2_with fail
        (first | go_region_law (first | (refine step_guard rfl ?_; go_simp; go_at_call 83; refine (HEnd.out _ (by first | with_reducible exact hsub.drew | with_reducible exact hsub)).mono ?_; rintro e w2 ⟨rfl, hb2⟩; dsimp only; replace hb2 := below_undrew hb2; have kb2 := cell_kept hb2 kb)) | fail)
        all_goals
          go_wp2_with fail
          go_ret
          exact ⟨ret_b (by rw [HGG.out]; unfold orderM; rw [kids_len]; exact HZ.out), below_chain hb2 hb0.out hb0.out.size⟩
  · have hm0 : dataM xs = false := by
      unfold dataM
      by_cases q : 1 ≤ xs.length
      · rw [decide_eq_false (p := xs.length ≤ 600) (fun q2 => h600 ⟨q, q2⟩)]; simp
      · rw [decide_eq_false q]; simp
    rw [hm0]
    rcases (show xs.length = 0 ∨ 600 < xs.length by omega) with q | q
    all_goals
      clear hm0 h600
      have q' : (xs.length : Int) = 0 ∨ (600 : Int) < xs.length := by omega
      go_enter Try.func29, Try.ntmps29
      go_wp2_with fail
      all_goals
        go_ret
        exact ⟨rfl, (by repeat (first | with_reducible exact Below.refl _ _ | with_reducible assumption | with_reducible refine Below.setCell ?_ ?_ _ | with_reducible refine Below.alloc ?_ ?_ _ | with_reducible refine Below.drew ?_ | (with_reducible apply below_chain; with_reducible assumption) | exact Nat.le_refl _ | omega | (simp <;> omega)))⟩
end Go.Proofs.Ythpphiplbaehdaa
