import Derived.Test.YtmopjpnghomdfaaTyText
import Derived.Deep.RegionLaw
import Derived.Test.YtmopjpnghomdfaaBase
/- The text of the type at a place: the reference's text; PrintTy of both. -/
namespace Go.Proofs.Ytmopjpnghomdfaa
set_option linter.unusedVariables false
set_option linter.unusedSimpArgs false
open Go.RowKit
set_option maxRecDepth 100000 in
set_option maxHeartbeats 4000000 in
theorem spec_l04Ty : ∀ (n : Nat) (w : World) (h : Hp) (hs : Sub h w) (v : Value) (xs : List TyI) (hv : TyS h v xs) (hit : ∀ x ∈ xs, itemM x = true) (hl : xs.length ≤ 200) (k e : Nat) (hn : xs.length - k ≤ n) (he : endM xs k = e),
    Calls Try.prog 97 #[.agg #[v], .int .i64 k] w fun r w' => r = .returned (.string (bs (textT xs n k))) ∧ Below w.heap.size w w' := by
  intro n
  induction n with
  | zero => intro w h hs v xs hv hit hl k e hn he; have := endM_bd xs k e he; omega
  | succ n ih =>
    intro w h hs v xs hv hit hl k e hn he
    have hm := hv.mem
    have HV := Lib.hid hv
    have HT := Lib.hid hit
    have IH := Lib.hid ih
    obtain ⟨a, c, rfl, hc1, hc2, -⟩ := hv
    unfold maxLen at hc2
    obtain ⟨l1, l2, hlt⟩ := endM_bd xs k e he
    obtain ⟨bl, off, rfl, hcell⟩ := HV.out.cell hlt
    obtain ⟨c0, c1, c2⟩ := hcell k hlt (w.alloc (.cells #[.slice (some ⟨bl, off, none⟩) xs.length c] 36)) (hs.alloc _)
    have hi := hit _ (List.getElem_mem hlt)
    have hx := hm _ (List.getElem_mem hlt)
    have hns := itemM_len hi
    obtain ⟨a0, a1⟩ := itemM_ar hi
    have hat := textT_at xs n k hlt
    have h0 := endM_none xs k e hlt he
    have h1 := endM_one xs k e hlt he
    have h2 := endM_two xs k e hlt he
    have hv0 : xs[k].name.toList.isEmpty = true → 0 ≤ xs[k].v ∧ xs[k].v ≤ 9999 ∧ xs[k].ar = 0 := by
      intro hE; unfold itemM at hi; rw [if_pos hE] at hi
      simp only [Bool.and_eq_true, decide_eq_true_eq, beq_iff_eq] at hi; omega
    clear hcell hit ih hm hi
    obtain ⟨x, hxe⟩ : ∃ x, x = xs[k] := ⟨_, rfl⟩
    rw [← hxe] at c0 c1 c2 hx hns a0 a1 hat h0 h1 h2 hv0
    clear hxe
    obtain ⟨xv, s, ar⟩ := x
    obtain ⟨hxv, hsz, hxa⟩ := hx
    unfold I64 at hxv hxa
    dsimp only at hxv hsz hxa c0 c1 c2 hns a0 a1 hat h0 h1 h2 hv0
    have HAt := Lib.hid hat
    clear hat
    have hsm : s.size ≤ 12 := hns
    cases hE : s.toList.isEmpty
    · rcases (show ar = 0 ∨ ar = 1 ∨ ar = 2 by omega) with rfl | rfl | rfl
      · have hT : bs (textT xs (n + 1) k) = s := by rw [HAt.out, hE, if_neg (by simp), if_pos rfl, bs_of]
        rw [hT]
        clear h0 h1 h2 hv0 hT
        go_enter Try.func97, Try.ntmps97
        go_wp2
        go_ret
        exact ⟨rfl, (by repeat (first | with_reducible exact Below.refl _ _ | with_reducible assumption | with_reducible refine Below.setCell ?_ ?_ _ | with_reducible refine Below.alloc ?_ ?_ _ | with_reducible refine Below.drew ?_ | (with_reducible apply below_chain; with_reducible assumption) | exact Nat.le_refl _ | omega | (simp <;> omega)))⟩
      · have he1 := h1 rfl
        clear h0 h2 hv0 h1
        have hT : bs (textT xs (n + 1) k) = _ := (congrArg bs (by rw [HAt.out, hE, if_neg (by simp), if_neg (by decide), if_pos rfl])).trans (txt_one (textT xs n (k + 1)) s)
        rw [hT]
        have hz := textT_len xs HT.out n (k + 1) e he1
        have hz1 : (bs (textT xs n (k + 1))).size ≤ 8000 := by rw [bs_size]; omega
        have K1 := Lib.hid (fun (w : World) (hs : Sub h w) => IH.out w h hs _ xs HV.out HT.out hl (k + 1) e (by omega) he1)
        clear hT hz
        go_enter Try.func97, Try.ntmps97
        go_wp2_with fail
        refine (K1.out _ ((hs.alloc _).alloc _)).mono ?_
        rintro r w1 ⟨rfl, hb1⟩
        obtain ⟨kc1, kf1⟩ := bcell hb1; have kz1 := hb1.size; (try simp at kz1); (first | (refine (fun (kw1_0 : w.heap.size  < w1.heap.size) => ?_) ?_; rotate_left; omega) | skip); (first | (refine (fun (kw1_1 : w.heap.size + 1 < w1.heap.size) => ?_) ?_; rotate_left; omega) | skip); (first | (refine (fun (kw1_2 : w.heap.size + 1 + 1 < w1.heap.size) => ?_) ?_; rotate_left; omega) | skip)
        go_wp2_with fail
        go_ret
        exact ⟨rfl, (by repeat (first | with_reducible exact Below.refl _ _ | with_reducible assumption | with_reducible refine Below.setCell ?_ ?_ _ | with_reducible refine Below.alloc ?_ ?_ _ | with_reducible refine Below.drew ?_ | (with_reducible apply below_chain; with_reducible assumption) | exact Nat.le_refl _ | omega | (simp <;> omega)))⟩
      · obtain ⟨e1, q1, q2⟩ := h2 rfl
        clear h0 h2 hv0 h1
        have b1 := endM_bd xs (k + 1) e1 q1
        have b2 := endM_bd xs e1 e q2
        have ht1 : (endM xs (k + 1)).toNat = e1 := by omega
        have hz := textT_len xs HT.out n (k + 1) e1 q1
        have hz' := textT_len xs HT.out n e1 e q2
        have hz1 : (bs (textT xs n (k + 1))).size ≤ 8000 := by rw [bs_size]; omega
        have hz2 : (bs (textT xs n e1)).size ≤ 8000 := by rw [bs_size]; omega
        have K1 := Lib.hid (fun (w : World) (hs : Sub h w) => IH.out w h hs _ xs HV.out HT.out hl (k + 1) e1 (by omega) q1)
        have KE := Lib.hid (fun (w : World) (hs : Sub h w) => spec_l04End xs.length w h hs _ xs HV.out (items_ar (List.all_eq_true.2 HT.out)) (by omega) (k + 1) (by omega) (by omega))
        have Q1 := Lib.hid q1
        have ew : IntKind.i64.wrap ((k : Int) + 1) = (k : Int) + 1 := IntWalk.i64_in _ (by omega)
        have K2 := Lib.hid (fun (w : World) (hs : Sub h w) => IH.out w h hs _ xs HV.out HT.out hl e1 e (by omega) q2)
        cases hop : (s.toList == [45, 62] || s.toList == [42])
        · have hT : bs (textT xs (n + 1) k) = _ := (congrArg bs (by rw [HAt.out, hE, hop, if_neg (by simp), if_neg (by decide), if_neg (by decide), if_neg (by simp), ht1])).trans (txt_two (textT xs n (k + 1)) (textT xs n e1) s)
          rw [hT]
          obtain ⟨o1, o2⟩ : (s.toList == [45, 62]) = false ∧ (s.toList == [42]) = false := by simpa using hop
          clear hT hz hz' hop q1 q2 ht1
          go_enter Try.func97, Try.ntmps97
          go_wp2_with fail
          refine (K1.out _ ((hs.alloc _).alloc _)).mono ?_
          rintro r w1 ⟨rfl, hb1⟩
          obtain ⟨kc1, kf1⟩ := bcell hb1; have kz1 := hb1.size; (try simp at kz1); (first | (refine (fun (kw1_0 : w.heap.size  < w1.heap.size) => ?_) ?_; rotate_left; omega) | skip); (first | (refine (fun (kw1_1 : w.heap.size + 1 < w1.heap.size) => ?_) ?_; rotate_left; omega) | skip); (first | (refine (fun (kw1_2 : w.heap.size + 1 + 1 < w1.heap.size) => ?_) ?_; rotate_left; omega) | skip)
          have s1 := ((hs.alloc _).alloc _).below hb1
          go_wp2_with fail
          (first | go_region_law (first | (refine step_guard rfl ?_; go_simp; go_at_call 74; refine (KE.out _ (by first | with_reducible exact s1.drew | with_reducible exact s1)).mono ?_; rw [Q1.out]; rintro r w2 ⟨rfl, hb2⟩; replace hb2 := below_undrew hb2; have s2 := s1.below hb2; obtain ⟨kc2, kf2⟩ := bcell hb2; have kz2 := hb2.size; (try simp at kz2); (first | (refine (fun (kw2_0 : w.heap.size  < w2.heap.size) => ?_) ?_; rotate_left; omega) | skip); (first | (refine (fun (kw2_1 : w.heap.size + 1 < w2.heap.size) => ?_) ?_; rotate_left; omega) | skip); (first | (refine (fun (kw2_2 : w.heap.size + 1 + 1 < w2.heap.size) => ?_) ?_; rotate_left; omega) | skip); dsimp only) | (refine step_guard rfl ?_; go_simp; go_at_call 97; refine (K2.out _ (by first | with_reducible exact s2 | with_reducible exact s2.drew)).mono ?_; rintro r w3 ⟨rfl, hb3⟩; obtain ⟨kc3, kf3⟩ := bcell hb3; have kz3 := hb3.size; (try simp at kz3); (first | (refine (fun (kw3_0 : w.heap.size  < w3.heap.size) => ?_) ?_; rotate_left; omega) | skip); (first | (refine (fun (kw3_1 : w.heap.size + 1 < w3.heap.size) => ?_) ?_; rotate_left; omega) | skip); (first | (refine (fun (kw3_2 : w.heap.size + 1 + 1 < w3.heap.size) => ?_) ?_; rotate_left; omega) | skip); dsimp only)) | fail)
          all_goals
            go_wp2_with fail
            go_ret
            exact ⟨rfl, (by repeat (first | with_reducible exact Below.refl _ _ | with_reducible assumption | with_reducible refine Below.setCell ?_ ?_ _ | with_reducible refine Below.alloc ?_ ?_ _ | with_reducible refine Below.drew ?_ | (with_reducible apply below_chain; with_reducible assumption) | exact Nat.le_refl _ | omega | (simp <;> omega)))⟩
        · have hT : bs (textT xs (n + 1) k) = _ := (congrArg bs (by rw [HAt.out, hE, hop, if_neg (by simp), if_neg (by decide), if_neg (by decide), if_pos rfl, ht1])).trans (txt_op (textT xs n (k + 1)) (textT xs n e1) s)
          rw [hT]
          have ho := hop
          rw [Bool.or_eq_true] at ho
          clear hT hz hz' hop q1 q2 ht1
          go_enter Try.func97, Try.ntmps97
          go_wp2_with fail
          refine (K1.out _ ((hs.alloc _).alloc _)).mono ?_
          rintro r w1 ⟨rfl, hb1⟩
          obtain ⟨kc1, kf1⟩ := bcell hb1; have kz1 := hb1.size; (try simp at kz1); (first | (refine (fun (kw1_0 : w.heap.size  < w1.heap.size) => ?_) ?_; rotate_left; omega) | skip); (first | (refine (fun (kw1_1 : w.heap.size + 1 < w1.heap.size) => ?_) ?_; rotate_left; omega) | skip); (first | (refine (fun (kw1_2 : w.heap.size + 1 + 1 < w1.heap.size) => ?_) ?_; rotate_left; omega) | skip)
          have s1 := ((hs.alloc _).alloc _).below hb1
          go_wp2_with fail
          (first | go_region_law (first | (refine step_guard rfl ?_; go_simp; go_at_call 74; refine (KE.out _ (by first | with_reducible exact s1.drew | with_reducible exact s1)).mono ?_; rw [Q1.out]; rintro r w2 ⟨rfl, hb2⟩; replace hb2 := below_undrew hb2; have s2 := s1.below hb2; obtain ⟨kc2, kf2⟩ := bcell hb2; have kz2 := hb2.size; (try simp at kz2); (first | (refine (fun (kw2_0 : w.heap.size  < w2.heap.size) => ?_) ?_; rotate_left; omega) | skip); (first | (refine (fun (kw2_1 : w.heap.size + 1 < w2.heap.size) => ?_) ?_; rotate_left; omega) | skip); (first | (refine (fun (kw2_2 : w.heap.size + 1 + 1 < w2.heap.size) => ?_) ?_; rotate_left; omega) | skip); dsimp only) | (refine step_guard rfl ?_; go_simp; go_at_call 97; refine (K2.out _ (by first | with_reducible exact s2 | with_reducible exact s2.drew)).mono ?_; rintro r w3 ⟨rfl, hb3⟩; obtain ⟨kc3, kf3⟩ := bcell hb3; have kz3 := hb3.size; (try simp at kz3); (first | (refine (fun (kw3_0 : w.heap.size  < w3.heap.size) => ?_) ?_; rotate_left; omega) | skip); (first | (refine (fun (kw3_1 : w.heap.size + 1 < w3.heap.size) => ?_) ?_; rotate_left; omega) | skip); (first | (refine (fun (kw3_2 : w.heap.size + 1 + 1 < w3.heap.size) => ?_) ?_; rotate_left; omega) | skip); dsimp only)) | fail)
          all_goals
            rcases ho with o1 | o1
            all_goals
              go_wp2_with fail
              all_goals
                go_ret
                exact ⟨rfl, (by repeat (first | with_reducible exact Below.refl _ _ | with_reducible assumption | with_reducible refine Below.setCell ?_ ?_ _ | with_reducible refine Below.alloc ?_ ?_ _ | with_reducible refine Below.drew ?_ | (with_reducible apply below_chain; with_reducible assumption) | exact Nat.le_refl _ | omega | (simp <;> omega)))⟩
    · obtain ⟨v0, v1, rfl⟩ := hv0 hE
      have hT : bs (textT xs (n + 1) k) = bs (varT xv) := by rw [HAt.out, hE, if_pos rfl]
      rw [hT]
      clear h0 h1 h2 hv0 hT
      go_enter Try.func97, Try.ntmps97
      go_wp2_with fail
      refine (spec_l04Var _ xv v0 v1).mono ?_
      rintro r w1 ⟨rfl, hb1⟩
      obtain ⟨kc1, kf1⟩ := bcell hb1; have kz1 := hb1.size; (try simp at kz1); (first | (refine (fun (kw1_0 : w.heap.size  < w1.heap.size) => ?_) ?_; rotate_left; omega) | skip); (first | (refine (fun (kw1_1 : w.heap.size + 1 < w1.heap.size) => ?_) ?_; rotate_left; omega) | skip); (first | (refine (fun (kw1_2 : w.heap.size + 1 + 1 < w1.heap.size) => ?_) ?_; rotate_left; omega) | skip)
      go_wp2_with fail
      go_ret
      exact ⟨rfl, (by repeat (first | with_reducible exact Below.refl _ _ | with_reducible assumption | with_reducible refine Below.setCell ?_ ?_ _ | with_reducible refine Below.alloc ?_ ?_ _ | with_reducible refine Below.drew ?_ | (with_reducible apply below_chain; with_reducible assumption) | exact Nat.le_refl _ | omega | (simp <;> omega)))⟩
theorem impl_PrintTy (w : World) (h : Hp) (hs : Sub h w) (v : Value) (xs : List TyI) (hv : TyS h v xs) (hl : xs.length ≤ 1000000000) :
    Calls Try.prog 22 #[.agg #[v]] w fun e w' => e = .returned (.string (bs (printTyM xs))) ∧ Below w.heap.size w w' := by
  have HV := Lib.hid hv
  obtain ⟨a, c, rfl, hc1, hc2, -⟩ := hv
  have KO := Lib.hid (fun (w : World) (hs : Sub h w) => impl_TyOk w h hs _ xs HV.out hl)
  cases hb : tyOkM xs
  · rw [printTyM_bad hb]
    have HB := Lib.hid hb
    clear hb
    go_enter Try.func22, Try.ntmps22
    go_wp2_with fail
    refine (KO.out _ (hs.alloc _)).mono ?_
    rw [HB.out]
    rintro e w1 ⟨rfl, hb1⟩
    go_wp2_with fail
    go_ret
    exact ⟨rfl, (by repeat (first | with_reducible exact Below.refl _ _ | with_reducible assumption | with_reducible refine Below.setCell ?_ ?_ _ | with_reducible refine Below.alloc ?_ ?_ _ | with_reducible refine Below.drew ?_ | (with_reducible apply below_chain; with_reducible assumption) | exact Nat.le_refl _ | omega | (simp <;> omega)))⟩
  · rw [printTyM_ok hb]
    have ⟨hall, hend, h200⟩ : (∀ x ∈ xs, itemM x = true) ∧ endM xs 0 = (xs.length : Nat) ∧ xs.length ≤ 200 := by
      unfold tyOkM tyItemsM at hb
      simp only [Bool.and_eq_true, decide_eq_true_eq, List.all_eq_true] at hb
      exact ⟨hb.2.1, hb.2.2, hb.1⟩
    have KT := Lib.hid (fun (w : World) (hs : Sub h w) => impl_tyText xs.length w h hs _ xs HV.out hall h200 0 xs.length (by omega) hend)
    have HB := Lib.hid hb
    clear hb hall hend
    go_enter Try.func22, Try.ntmps22
    go_wp2_with fail
    refine (KO.out _ (hs.alloc _)).mono ?_
    rw [HB.out]
    rintro e w1 ⟨rfl, hb1⟩
    obtain ⟨kc1, kf1⟩ := bcell hb1; have kz1 := hb1.size; (try simp at kz1); (first | (refine (fun (kw1_0 : w.heap.size  < w1.heap.size) => ?_) ?_; rotate_left; omega) | skip); (first | (refine (fun (kw1_1 : w.heap.size + 1 < w1.heap.size) => ?_) ?_; rotate_left; omega) | skip); (first | (refine (fun (kw1_2 : w.heap.size + 1 + 1 < w1.heap.size) => ?_) ?_; rotate_left; omega) | skip)
    have s1 := (hs.alloc _).below hb1
    go_wp2_with fail
    refine (KT.out _ s1).mono ?_
    rintro e w2 ⟨rfl, hb2⟩
    go_wp2_with fail
    go_ret
    exact ⟨rfl, (by repeat (first | with_reducible exact Below.refl _ _ | with_reducible assumption | with_reducible refine Below.setCell ?_ ?_ _ | with_reducible refine Below.alloc ?_ ?_ _ | with_reducible refine Below.drew ?_ | (with_reducible apply below_chain; with_reducible assumption) | exact Nat.le_refl _ | omega | (simp <;> omega)))⟩
theorem spec_PrintTy (w : World) (h : Hp) (hs : Sub h w) (v : Value) (xs : List TyI) (hv : TyS h v xs) (hl : xs.length ≤ 1000000000) :
    Calls Try.prog 83 #[.agg #[v]] w fun e w' => e = .returned (.string (bs (printTyM xs))) ∧ Below w.heap.size w w' := by
  have HV := Lib.hid hv
  obtain ⟨a, c, rfl, hc1, hc2, -⟩ := hv
  have KO := Lib.hid (fun (w : World) (hs : Sub h w) => spec_TyOk w h hs _ xs HV.out hl)
  cases hb : tyOkM xs
  · rw [printTyM_bad hb]
    have HB := Lib.hid hb
    clear hb
    go_enter Try.func83, Try.ntmps83
    go_wp2_with fail
    refine (KO.out _ (by repeat (first | exact hs | refine Sub.alloc ?_ _))).mono ?_
    rw [HB.out]
    rintro e w1 ⟨rfl, hb1⟩
    go_wp2_with fail
    go_ret
    exact ⟨rfl, (by repeat (first | with_reducible exact Below.refl _ _ | with_reducible assumption | with_reducible refine Below.setCell ?_ ?_ _ | with_reducible refine Below.alloc ?_ ?_ _ | with_reducible refine Below.drew ?_ | (with_reducible apply below_chain; with_reducible assumption) | exact Nat.le_refl _ | omega | (simp <;> omega)))⟩
  · rw [printTyM_ok hb]
    have ⟨hall, hend, h200⟩ : (∀ x ∈ xs, itemM x = true) ∧ endM xs 0 = (xs.length : Nat) ∧ xs.length ≤ 200 := by
      unfold tyOkM tyItemsM at hb
      simp only [Bool.and_eq_true, decide_eq_true_eq, List.all_eq_true] at hb
      exact ⟨hb.2.1, hb.2.2, hb.1⟩
    have KT := Lib.hid (fun (w : World) (hs : Sub h w) => spec_l04Ty xs.length w h hs _ xs HV.out hall h200 0 xs.length (by omega) hend)
    have HB := Lib.hid hb
    clear hb hall hend
    go_enter Try.func83, Try.ntmps83
    go_wp2_with fail
    refine (KO.out _ (by repeat (first | exact hs | refine Sub.alloc ?_ _))).mono ?_
    rw [HB.out]
    rintro e w1 ⟨rfl, hb1⟩
    obtain ⟨kc1, kf1⟩ := bcell hb1; have kz1 := hb1.size; (try simp at kz1); (first | (refine (fun (kw1_0 : w.heap.size  < w1.heap.size) => ?_) ?_; rotate_left; omega) | skip); (first | (refine (fun (kw1_1 : w.heap.size + 1 < w1.heap.size) => ?_) ?_; rotate_left; omega) | skip); (first | (refine (fun (kw1_2 : w.heap.size + 1 + 1 < w1.heap.size) => ?_) ?_; rotate_left; omega) | skip)
    have s1 : Sub h w1 := Sub.below (by repeat (first | exact hs | refine Sub.alloc ?_ _)) hb1
    go_wp2_with fail
    refine (KT.out _ s1).mono ?_
    rintro e w2 ⟨rfl, hb2⟩
    go_wp2_with fail
    go_ret
    exact ⟨rfl, (by repeat (first | with_reducible exact Below.refl _ _ | with_reducible assumption | with_reducible refine Below.setCell ?_ ?_ _ | with_reducible refine Below.alloc ?_ ?_ _ | with_reducible refine Below.drew ?_ | (with_reducible apply below_chain; with_reducible assumption) | exact Nat.le_refl _ | omega | (simp <;> omega)))⟩
end Go.Proofs.Ytmopjpnghomdfaa
