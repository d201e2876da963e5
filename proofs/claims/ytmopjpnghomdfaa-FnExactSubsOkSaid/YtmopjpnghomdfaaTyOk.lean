/- TyOk of both texts: the loops. -/
import Derived.Test.YtmopjpnghomdfaaTyWalks
namespace Go.Proofs.Ytmopjpnghomdfaa
set_option linter.unusedVariables false
set_option linter.unusedSimpArgs false
open Go.RowKit Go.ChangeShapes Go.WideShapes
theorem ar_zero {ar : Int} (h : (ar != 0) = false) : ar = 0 := by simpa using h
set_option maxRecDepth 100000 in
set_option maxHeartbeats 2000000 in
theorem impl_tyOk (w : World) (h : Hp) (hs : Sub h w) (v : Value) (xs : List TyI) (hv : TyS h v xs) (hl : xs.length ≤ 1000000000) :
    Calls Try.prog 75 #[v] w fun e w' => e = .returned (.bool (tyItemsM xs)) ∧ Below w.heap.size w w' := by
  have hm := Lib.hid hv.mem
  have HV := Lib.hid hv
  obtain ⟨a, c, rfl, hc1, hc2, -⟩ := hv
  unfold maxLen at hc2
  obtain ⟨b, hb⟩ : ∃ b, tyItemsM xs = b := ⟨_, rfl⟩
  rw [hb]
  rw [← restM_start] at hb
  have HB0 := Lib.hid hb
  clear hb
  go_enter Try.func75, Try.ntmps75
  go_wp2
  go_loopw [3, 8] (fun nd i wr => ∃ (k m : Nat), k ≤ xs.length ∧ m ≤ 2 * k + 1 ∧ i = .int .i64 k ∧ nd = .int .i64 m ∧ restM xs k m = b ∧ Below w.heap.size w wr) (fun _ i _ => xs.length - (intOf i).toNat)
  case atStart => exact ⟨0, 1, by omega, by omega, rfl, rfl, HB0.out, Below.refl _ _⟩
  case round =>
    obtain ⟨k, m, hk, hmk, rfl, rfl, hr, hbel⟩ := hrel
    have HR := Lib.hid hr
    clear hr
    by_cases hlt : k < xs.length
    · obtain ⟨bl, off, rfl, hcell⟩ := HV.out.cell hlt
      obtain ⟨c0, c1, c2⟩ := hcell k hlt wr (hs.below hbel)
      have hx := hm.out _ (List.getElem_mem hlt)
      have hbad : ∀ m, restM xs k m = b → itemM xs[k] = false → false = b := fun m e f => (restM_bad xs k m hlt f).symm.trans e
      have hgood : ∀ m, restM xs k (m + 1) = b → itemM xs[k] = true → restM xs (k + 1) (m + xs[k].ar.toNat) = b := fun m e f => (restM_step xs k m hlt f).symm.trans e
      clear hcell
      obtain ⟨x, hxe⟩ : ∃ x, x = xs[k] := ⟨_, rfl⟩
      rw [← hxe] at c0 c1 c2 hx hbad hgood
      clear hxe
      have HX := Lib.hid hx
      obtain ⟨v, s, ar⟩ := x
      obtain ⟨hv, hsz, ha⟩ := hx
      unfold I64 at hv ha
      dsimp only at hv hsz ha c0 c1 c2 hbad hgood
      have HBad := Lib.hid hbad
      have HGood := Lib.hid hgood
      clear hbad hgood
      cases m with
      | zero =>
        go_wp2
        go_ret
        exact ⟨ret_b ((restM_zero xs k hlt).symm.trans HR.out), hbel.alloc hbel.size _⟩
      | succ m =>
        have hb0 : ∀ o, Below w.heap.size w (wr.alloc o) := fun o => hbel.alloc hbel.size o
        have HB1 := Lib.hid hb0
        clear hb0
        by_cases hv0 : v = 0
        · subst hv0
          by_cases hr0 : 0 ≤ ar ∧ ar ≤ 2
          · obtain ⟨r0, r1⟩ := hr0
            have hw : ((ar.toNat : Nat) : Int) = ar := Int.toNat_of_nonneg r0
            go_wp2_with (first | (go_at_call 45; refine (impl_within _ _ _ _).mono ?_; rintro e w' ⟨rfl, rfl⟩) | (go_at_call 96; refine (impl_tyName _ ⟨0, s, ar⟩ HX.out r0 r1 rfl (by assumption)).mono ?_; rintro e w1 ⟨rfl, hb1⟩; obtain ⟨kc1, kf1⟩ := bcell hb1; have kz1 := hb1.size; (try simp at kz1); (first | (refine (fun (kw1_0 : wr.heap.size  < w1.heap.size) => ?_) ?_; rotate_left; omega) | skip); (first | (refine (fun (kw1_1 : wr.heap.size + 1 < w1.heap.size) => ?_) ?_; rotate_left; omega) | skip); (first | (refine (fun (kw1_2 : wr.heap.size + 1 + 1 < w1.heap.size) => ?_) ?_; rotate_left; omega) | skip)))
            all_goals first
              | (go_ret; refine ⟨ret_b (HBad.out (m + 1) HR.out (by grind [itemM])), ?_⟩; first | exact HB1.out _ | exact below_chain hb1 (HB1.out _) (HB1.out _).size)
              | (refine ⟨⟨k + 1, m + ar.toNat, by omega, by omega, by go_num, congrArg (Value.int .i64) (by first | omega | (have := ar_zero (by assumption); omega)), HGood.out m HR.out (by grind [itemM]), ?_⟩, by simp [intOf]; omega⟩; first | exact HB1.out _ | exact below_chain hb1 (HB1.out _) (HB1.out _).size)
              | skip
          · go_wp2_with (first | (go_at_call 45; refine (impl_within _ _ _ _).mono ?_; rintro e w' ⟨rfl, rfl⟩))
            all_goals first
              | (go_ret; exact ⟨ret_b (HBad.out (m + 1) HR.out (by grind [itemM])), HB1.out _⟩)
              | (exfalso; simp_all; done)
              | skip
        · go_wp2_with (first | (go_at_call 45; refine (impl_within _ _ _ _).mono ?_; rintro e w' ⟨rfl, rfl⟩))
          all_goals first
            | (go_ret; exact ⟨ret_b (HBad.out (m + 1) HR.out (by grind [itemM])), HB1.out _⟩)
            | (refine ⟨⟨k + 1, m + ar.toNat, by omega, by first | omega | (have := ar_zero (by assumption); omega), by go_num, congrArg (Value.int .i64) (by first | omega | (have := ar_zero (by assumption); omega)), HGood.out m HR.out (by grind [itemM]), HB1.out _⟩, by simp [intOf]; omega⟩)
            | skip
    · have HE := Lib.hid ((restM_end xs k m (by omega)).symm.trans HR.out)
      by_cases hm0 : m = 0
      · subst hm0
        go_wp2
        go_ret
        exact ⟨ret_b (by rw [← HE.out]; simp), hbel⟩
      · have hm1 : ((m : Int) == 0) = false := by simpa using hm0
        go_wp2
        go_ret
        exact ⟨ret_b (by rw [← HE.out]; simpa using hm0), hbel⟩
end Go.Proofs.Ytmopjpnghomdfaa
