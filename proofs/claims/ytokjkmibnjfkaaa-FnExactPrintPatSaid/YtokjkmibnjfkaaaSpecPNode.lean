/- A node of a pattern: the reference's text. -/
import Derived.Test.YtokjkmibnjfkaaaNodePat
import Derived.Deep.CutRange
namespace Go.Proofs.Ytokjkmibnjfkaaa
set_option linter.unusedVariables false
set_option linter.unusedSimpArgs false
open Go.RowKit
theorem below_chain' {a b c : World} (k : Below a.heap.size a b) (h : Below b.heap.size b c) : Below a.heap.size a c := below_chain h k k.size
set_option maxRecDepth 100000 in
set_option maxHeartbeats 8000000 in
theorem spec_l04PNode (w : World) (h : Hp) (hs : Sub h w) (v : Value) (xs : List DPNode) (hv : DPNodeS h v xs) (hl : xs.length ≤ 1000000000) (x : DPNode) (hx : pNodeOk x) (vx : Value) (hvx : IntS h vx x.kids) (hkl : x.kids.length ≤ 1000000000) :
    Calls Try.prog 65 #[.agg #[v], .agg #[.int .i64 x.kind, .int .i64 x.n, .string x.s, vx]] w fun e w' => e = .returned (.bool (pnodeM xs x)) ∧ Below w.heap.size w w' := by
  obtain ⟨kind, n, s, kids⟩ := x
  obtain ⟨hk, hn, hsz⟩ := hx
  unfold I64 at hk hn
  dsimp only at hk hn hsz hvx hkl ⊢
  have HV1 := Lib.hid hvx
  have hmk := Lib.hid hvx.mem
  obtain ⟨a1, d1, rfl, hx1, hx2, -⟩ := hvx
  unfold maxLen at hx2
  have HV := Lib.hid hv
  obtain ⟨a, c, rfl, hc1, hc2, -⟩ := hv
  unfold maxLen at hc2
  obtain ⟨p, hp⟩ : ∃ p, pairP xs kids = p := ⟨_, rfl⟩
  have HPP := Lib.hid hp
  have HM : pnodeM xs ⟨kind, n, s, kids⟩ = pnodeB p ⟨kind, n, s, kids⟩ := by unfold pnodeM; rw [hp]
  rw [HM]
  clear hp HM
  go_enter Try.func65, Try.ntmps65
  go_wp2_with fail
  go_cut [5] from 6 to 200 (fun cc wx => cc = .bool p ∧ ∃ nq, wx = ((w.alloc (.cells #[.slice a xs.length c] 29)).alloc (.cells #[.int .i64 kind, .int .i64 n, .string s, .slice a1 kids.length d1] 109)).drewN nq)
  case first =>
    have MEET := Lib.hid HPP.out
    by_cases h1 : kids.length = 1
    · have hki := hmk.out _ (List.getElem_mem (show 0 < kids.length by omega))
      obtain ⟨bl', off', rfl, hcell'⟩ := HV1.out.cell (i := 0) (by omega)
      have hkk1 : (kids.length : Int) = 1 := by omega
      obtain ⟨z, hz⟩ : ∃ z, z = kids[0]'(by omega) := ⟨_, rfl⟩
      have hout : z < 0 ∨ (xs.length : Int) ≤ z → pairP xs kids = false := fun e => pairP_out xs kids h1 (by rw [← hz]; exact e)
      have hat : ∀ (kn : Nat) (hk : kn < xs.length), z = (kn : Int) → pairP xs kids = (xs[kn].kind == 5) := fun kn hk e => pairP_at xs kids h1 kn hk (hz.symm.trans e)
      have hce : ∀ W : World, Sub h W → W.cell? ⟨bl', off', none⟩ = some (.int .i64 z) := fun W hW => by
        have := hcell' 0 (by omega) W hW
        rw [Nat.add_zero] at this
        rw [hz]; exact this
      rw [← hz] at hki
      unfold I64 at hki
      clear hz h1 hcell'
      by_cases hz0 : z < 0
      · have HO := Lib.hid (hout (.inl hz0))
        have g1 : decide (0 ≤ z) = false := by simpa using hz0
        have e0 := hce ((w.alloc (.cells #[.slice a xs.length c] 29)).alloc (.cells #[.int .i64 kind, .int .i64 n, .string s, .slice (some ⟨bl', off', none⟩) kids.length d1] 109)) ((hs.alloc _).alloc _)
        clear hout hat hce
        go_quiet (fail)
        go_wp2_with fail
        go_meet
        exact ⟨congrArg Value.bool (HO.out.symm.trans MEET.out), _, rfl⟩
      · by_cases hz1 : z < (xs.length : Int)
        · obtain ⟨kn, rfl⟩ : ∃ kn : Nat, z = kn := ⟨z.toNat, by omega⟩
          have hkn : kn < xs.length := by omega
          have HA := hat kn hkn rfl
          obtain ⟨bl2, off2, rfl, hcell2⟩ := HV.out.cell hkn
          obtain ⟨v2, -, hcs2⟩ := hcell2 kn hkn
          obtain ⟨e1, -⟩ := hcs2 ((w.alloc (.cells #[.slice (some ⟨bl2, off2, none⟩) xs.length c] 29)).alloc (.cells #[.int .i64 kind, .int .i64 n, .string s, .slice (some ⟨bl', off', none⟩) kids.length d1] 109)) ((hs.alloc _).alloc _)
          have e0 := hce ((w.alloc (.cells #[.slice (some ⟨bl2, off2, none⟩) xs.length c] 29)).alloc (.cells #[.int .i64 kind, .int .i64 n, .string s, .slice (some ⟨bl', off', none⟩) kids.length d1] 109)) ((hs.alloc _).alloc _)
          have g1 : (0 : Int) ≤ (kn : Int) := by omega
          clear hout hat hcs2 hcell2 hce hz0
          cases hq : (xs[kn].kind == 5)
          all_goals
            rw [hq] at HA
            have HAA := Lib.hid HA
            clear HA
            go_quiet (fail)
            go_wp2_with fail
            go_meet
            exact ⟨congrArg Value.bool (HAA.out.symm.trans MEET.out), _, rfl⟩
        · have HO := Lib.hid (hout (.inr (by omega)))
          have g1 : (0 : Int) ≤ z := by omega
          have g2 : decide (z < (xs.length : Int)) = false := by simpa using hz1
          have e0 := hce ((w.alloc (.cells #[.slice a xs.length c] 29)).alloc (.cells #[.int .i64 kind, .int .i64 n, .string s, .slice (some ⟨bl', off', none⟩) kids.length d1] 109)) ((hs.alloc _).alloc _)
          clear hout hat hce hz0
          go_quiet (fail)
          go_wp2_with fail
          go_meet
          exact ⟨congrArg Value.bool (HO.out.symm.trans MEET.out), _, rfl⟩
    · have HO := Lib.hid (pairP_no xs kids h1)
      have hkk1 : ((kids.length : Int) == 1) = false := by simpa using (show ¬ (kids.length : Int) = 1 by omega)
      go_quiet (fail)
      go_wp2_with fail
      go_meet
      exact ⟨congrArg Value.bool (HO.out.symm.trans MEET.out), _, rfl⟩
  case rest =>
    obtain ⟨rfl, nq, rfl⟩ := hcut
    have HE := Lib.hid (show ((kids.length : Int) == 0) = decide (kids = []) by cases kids <;> simp <;> omega)
    rcases (show kind = 1 ∨ kind = 2 ∨ kind = 3 ∨ kind = 4 ∨ kind = 5 ∨ kind = 6 ∨ (¬ kind = 1 ∧ ¬ kind = 2 ∧ ¬ kind = 3 ∧ ¬ kind = 4 ∧ ¬ kind = 5 ∧ ¬ kind = 6) by omega) with rfl | rfl | rfl | rfl | rfl | rfl | ⟨k1, k2, k3, k4, k5, k6⟩
    all_goals
      go_wp2_with (first | (go_at_call 95; refine (spec_l04ConOk _ s hsz kids.length p).mono ?_; rintro e w' ⟨rfl, rfl⟩) | (go_at_call 51; refine (spec_NameOk _ s hsz).mono ?_; rintro e w1 ⟨rfl, hb1⟩; obtain ⟨kc1, kf1⟩ := bcell hb1; have kz1 := hb1.size; (try simp at kz1); (first | (refine (fun (kw1_0 : w.heap.size  < w1.heap.size) => ?_) ?_; rotate_left; omega) | skip); (first | (refine (fun (kw1_1 : w.heap.size + 1 < w1.heap.size) => ?_) ?_; rotate_left; omega) | skip); (first | (refine (fun (kw1_2 : w.heap.size + 1 + 1 < w1.heap.size) => ?_) ?_; rotate_left; omega) | skip)))
      all_goals
        go_ret
        refine ⟨ret_b ?_, (by first | exact (below_drewI ((by repeat (first | with_reducible exact Below.refl _ _ | with_reducible assumption | with_reducible refine Below.setCell ?_ ?_ _ | with_reducible refine Below.alloc ?_ ?_ _ | with_reducible refine Below.drew ?_ | (with_reducible apply below_chain; with_reducible assumption) | exact Nat.le_refl _ | omega | (simp <;> omega)))) _) | exact below_chain' (below_drewI ((by repeat (first | with_reducible exact Below.refl _ _ | with_reducible assumption | with_reducible refine Below.setCell ?_ ?_ _ | with_reducible refine Below.alloc ?_ ?_ _ | with_reducible refine Below.drew ?_ | (with_reducible apply below_chain; with_reducible assumption) | exact Nat.le_refl _ | omega | (simp <;> omega)))) _) hb1)⟩
        have hE := HE.out
        clear HV HV1 hmk HPP HE
        try clear kc1 kf1 hb1
        simp only [pnodeB, hE]
        first | (simp_all; done) | grind
end Go.Proofs.Ytokjkmibnjfkaaa
