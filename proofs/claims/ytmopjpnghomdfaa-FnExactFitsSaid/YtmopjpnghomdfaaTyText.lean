import Derived.Test.YtmopjpnghomdfaaTyVar
import Derived.Test.YtmopjpnghomdfaaTyB
/- The text of the type at a place, of both texts. -/
namespace Go.Proofs.Ytmopjpnghomdfaa
set_option linter.unusedVariables false
set_option linter.unusedSimpArgs false
open Go.RowKit
theorem txt_one (t : List UInt8) (s : ByteArray) : bs ([40] ++ t ++ [41, 32] ++ s.data.toList) = (((⟨#[40]⟩ : ByteArray) ++ bs t) ++ (⟨#[41, 32]⟩ : ByteArray)) ++ s := by
  rw [← str_app, ← str_app, ← str_app, bs_of]; rfl
theorem txt_op (t u : List UInt8) (s : ByteArray) : bs ([40] ++ t ++ [32] ++ s.data.toList ++ [32] ++ u ++ [41]) = ((((((⟨#[40]⟩ : ByteArray) ++ bs t) ++ (⟨#[32]⟩ : ByteArray)) ++ s) ++ (⟨#[32]⟩ : ByteArray)) ++ bs u) ++ (⟨#[41]⟩ : ByteArray) := by
  rw [← str_app, ← str_app, ← str_app, ← str_app, ← str_app, ← str_app, bs_of]; rfl
theorem txt_two (t u : List UInt8) (s : ByteArray) : bs ([40] ++ t ++ [44, 32] ++ u ++ [41, 32] ++ s.data.toList) = (((((⟨#[40]⟩ : ByteArray) ++ bs t) ++ (⟨#[44, 32]⟩ : ByteArray)) ++ bs u) ++ (⟨#[41, 32]⟩ : ByteArray)) ++ s := by
  rw [← str_app, ← str_app, ← str_app, ← str_app, ← str_app, bs_of]; rfl
set_option maxRecDepth 100000 in
set_option maxHeartbeats 4000000 in
theorem impl_tyText : ∀ (n : Nat) (w : World) (h : Hp) (hs : Sub h w) (v : Value) (xs : List TyI) (hv : TyS h v xs) (hit : ∀ x ∈ xs, itemM x = true) (hl : xs.length ≤ 200) (k e : Nat) (hn : xs.length - k ≤ n) (he : endM xs k = e),
    Calls Try.prog 62 #[v, .int .i64 k] w fun r w' => r = .returned (.tuple #[.string (bs (textT xs n k)), .int .i64 e]) ∧ Below w.heap.size w w' := by
  intro n
  induction n with
  | zero => intro w h hs v xs hv hit hl k e hn he; have := endM_bd xs k e he; omega
  | succ n ih =>
    intro w h hs v xs hv hit hl k e hn he
    have hm := hv.mem
    have HV := Lib.hid hv
    have HT := Lib.hid hit
    have IH := Lib.hid ih
    obtain ⟨a, c, rfl, hc1, hc2, -⟩ := hv
    unfold maxLen at hc2
    obtain ⟨l1, l2, hlt⟩ := endM_bd xs k e he
    obtain ⟨bl, off, rfl, hcell⟩ := HV.out.cell hlt
    obtain ⟨c0, c1, c2⟩ := hcell k hlt w hs
    have hi := hit _ (List.getElem_mem hlt)
    have hx := hm _ (List.getElem_mem hlt)
    have hns := itemM_len hi
    obtain ⟨a0, a1⟩ := itemM_ar hi
    have hat := textT_at xs n k hlt
    have h0 := endM_none xs k e hlt he
    have h1 := endM_one xs k e hlt he
    have h2 := endM_two xs k e hlt he
    have hv0 : xs[k].name.toList.isEmpty = true → 0 ≤ xs[k].v ∧ xs[k].v ≤ 9999 ∧ xs[k].ar = 0 := by
      intro hE; unfold itemM at hi; rw [if_pos hE] at hi
      simp only [Bool.and_eq_true, decide_eq_true_eq, beq_iff_eq] at hi; omega
    clear hcell hit ih hm hi
    obtain ⟨x, hxe⟩ : ∃ x, x = xs[k] := ⟨_, rfl⟩
    rw [← hxe] at c0 c1 c2 hx hns a0 a1 hat h0 h1 h2 hv0
    clear hxe
    obtain ⟨xv, s, ar⟩ := x
    obtain ⟨hxv, hsz, hxa⟩ := hx
    unfold I64 at hxv hxa
    dsimp only at hxv hsz hxa c0 c1 c2 hns a0 a1 hat h0 h1 h2 hv0
    have HAt := Lib.hid hat
    clear hat
    have hsm : s.size ≤ 12 := hns
    cases hE : s.toList.isEmpty
    · rcases (show ar = 0 ∨ ar = 1 ∨ ar = 2 by omega) with rfl | rfl | rfl
      · have hT : bs (textT xs (n + 1) k) = s := by rw [HAt.out, hE, if_neg (by simp), if_pos rfl, bs_of]
        rw [hT, h0 rfl]
        clear h0 h1 h2 hv0 hT
        go_enter Try.func62, Try.ntmps62
        go_wp2
        go_ret2
        exact ⟨rfl, (by repeat (first | with_reducible exact Below.refl _ _ | with_reducible assumption | with_reducible refine Below.setCell ?_ ?_ _ | with_reducible refine Below.alloc ?_ ?_ _ | with_reducible refine Below.drew ?_ | (with_reducible apply below_chain; with_reducible assumption) | exact Nat.le_refl _ | omega | (simp <;> omega)))⟩
      · have he1 := h1 rfl
        clear h0 h2 hv0 h1
        have hT : bs (textT xs (n + 1) k) = _ := (congrArg bs (by rw [HAt.out, hE, if_neg (by simp), if_neg (by decide), if_pos rfl])).trans (txt_one (textT xs n (k + 1)) s)
        rw [hT]
        have hz := textT_len xs HT.out n (k + 1) e he1
        have hz1 : (bs (textT xs n (k + 1))).size ≤ 8000 := by rw [bs_size]; omega
        have K1 := Lib.hid (fun (w : World) (hs : Sub h w) => IH.out w h hs _ xs HV.out HT.out hl (k + 1) e (by omega) he1)
        clear hT hz
        go_enter Try.func62, Try.ntmps62
        go_wp2_with fail
        refine (K1.out _ (hs.alloc _)).mono ?_
        rintro r w1 ⟨rfl, hb1⟩
        obtain ⟨kc1, kf1⟩ := bcell hb1; have kz1 := hb1.size; (try simp at kz1); (first | (refine (fun (kw1_0 : w.heap.size  < w1.heap.size) => ?_) ?_; rotate_left; omega) | skip); (first | (refine (fun (kw1_1 : w.heap.size + 1 < w1.heap.size) => ?_) ?_; rotate_left; omega) | skip); (first | (refine (fun (kw1_2 : w.heap.size + 1 + 1 < w1.heap.size) => ?_) ?_; rotate_left; omega) | skip)
        go_wp2_with fail
        go_ret2
        exact ⟨rfl, (by repeat (first | with_reducible exact Below.refl _ _ | with_reducible assumption | with_reducible refine Below.setCell ?_ ?_ _ | with_reducible refine Below.alloc ?_ ?_ _ | with_reducible refine Below.drew ?_ | (with_reducible apply below_chain; with_reducible assumption) | exact Nat.le_refl _ | omega | (simp <;> omega)))⟩
      · obtain ⟨e1, q1, q2⟩ := h2 rfl
        clear h0 h2 hv0 h1
        have b1 := endM_bd xs (k + 1) e1 q1
        have b2 := endM_bd xs e1 e q2
        have ht1 : (endM xs (k + 1)).toNat = e1 := by omega
        have hz := textT_len xs HT.out n (k + 1) e1 q1
        have hz' := textT_len xs HT.out n e1 e q2
        have hz1 : (bs (textT xs n (k + 1))).size ≤ 8000 := by rw [bs_size]; omega
        have hz2 : (bs (textT xs n e1)).size ≤ 8000 := by rw [bs_size]; omega
        have K1 := Lib.hid (fun (w : World) (hs : Sub h w) => IH.out w h hs _ xs HV.out HT.out hl (k + 1) e1 (by omega) q1)
        have K2 := Lib.hid (fun (w : World) (hs : Sub h w) => IH.out w h hs _ xs HV.out HT.out hl e1 e (by omega) q2)
        cases hop : (s.toList == [45, 62] || s.toList == [42])
        · have hT : bs (textT xs (n + 1) k) = _ := (congrArg bs (by rw [HAt.out, hE, hop, if_neg (by simp), if_neg (by decide), if_neg (by decide), if_neg (by simp), ht1])).trans (txt_two (textT xs n (k + 1)) (textT xs n e1) s)
          rw [hT]
          obtain ⟨o1, o2⟩ : (s.toList == [45, 62]) = false ∧ (s.toList == [42]) = false := by simpa using hop
          clear hT hz hz' hop q1 q2 ht1
          go_enter Try.func62, Try.ntmps62
          go_wp2_with fail
          refine (K1.out _ (hs.alloc _)).mono ?_
          rintro r w1 ⟨rfl, hb1⟩
          obtain ⟨kc1, kf1⟩ := bcell hb1; have kz1 := hb1.size; (try simp at kz1); (first | (refine (fun (kw1_0 : w.heap.size  < w1.heap.size) => ?_) ?_; rotate_left; omega) | skip); (first | (refine (fun (kw1_1 : w.heap.size + 1 < w1.heap.size) => ?_) ?_; rotate_left; omega) | skip); (first | (refine (fun (kw1_2 : w.heap.size + 1 + 1 < w1.heap.size) => ?_) ?_; rotate_left; omega) | skip)
          have s1 := (hs.alloc _).below hb1
          go_wp2_with fail
          refine (K2.out _ s1).mono ?_
          rintro r w2 ⟨rfl, hb2⟩
          obtain ⟨kc2, kf2⟩ := bcell hb2; have kz2 := hb2.size; (try simp at kz2); (first | (refine (fun (kw2_0 : w.heap.size  < w2.heap.size) => ?_) ?_; rotate_left; omega) | skip); (first | (refine (fun (kw2_1 : w.heap.size + 1 < w2.heap.size) => ?_) ?_; rotate_left; omega) | skip); (first | (refine (fun (kw2_2 : w.heap.size + 1 + 1 < w2.heap.size) => ?_) ?_; rotate_left; omega) | skip)
          go_wp2_with fail
          go_ret2
          exact ⟨rfl, (by repeat (first | with_reducible exact Below.refl _ _ | with_reducible assumption | with_reducible refine Below.setCell ?_ ?_ _ | with_reducible refine Below.alloc ?_ ?_ _ | with_reducible refine Below.drew ?_ | (with_reducible apply below_chain; with_reducible assumption) | exact Nat.le_refl _ | omega | (simp <;> omega)))⟩
        · have hT : bs (textT xs (n + 1) k) = _ := (congrArg bs (by rw [HAt.out, hE, hop, if_neg (by simp), if_neg (by decide), if_neg (by decide), if_pos rfl, ht1])).trans (txt_op (textT xs n (k + 1)) (textT xs n e1) s)
          rw [hT]
          have ho := hop
          rw [Bool.or_eq_true] at ho
          clear hT hz hz' hop q1 q2 ht1
          go_enter Try.func62, Try.ntmps62
          go_wp2_with fail
          refine (K1.out _ (hs.alloc _)).mono ?_
          rintro r w1 ⟨rfl, hb1⟩
          obtain ⟨kc1, kf1⟩ := bcell hb1; have kz1 := hb1.size; (try simp at kz1); (first | (refine (fun (kw1_0 : w.heap.size  < w1.heap.size) => ?_) ?_; rotate_left; omega) | skip); (first | (refine (fun (kw1_1 : w.heap.size + 1 < w1.heap.size) => ?_) ?_; rotate_left; omega) | skip); (first | (refine (fun (kw1_2 : w.heap.size + 1 + 1 < w1.heap.size) => ?_) ?_; rotate_left; omega) | skip)
          have s1 := (hs.alloc _).below hb1
          go_wp2_with fail
          refine (K2.out _ s1).mono ?_
          rintro r w2 ⟨rfl, hb2⟩
          obtain ⟨kc2, kf2⟩ := bcell hb2; have kz2 := hb2.size; (try simp at kz2); (first | (refine (fun (kw2_0 : w.heap.size  < w2.heap.size) => ?_) ?_; rotate_left; omega) | skip); (first | (refine (fun (kw2_1 : w.heap.size + 1 < w2.heap.size) => ?_) ?_; rotate_left; omega) | skip); (first | (refine (fun (kw2_2 : w.heap.size + 1 + 1 < w2.heap.size) => ?_) ?_; rotate_left; omega) | skip)
          rcases ho with o1 | o1
          all_goals
            go_wp2_with fail
            all_goals
              go_ret2
              exact ⟨rfl, (by repeat (first | with_reducible exact Below.refl _ _ | with_reducible assumption | with_reducible refine Below.setCell ?_ ?_ _ | with_reducible refine Below.alloc ?_ ?_ _ | with_reducible refine Below.drew ?_ | (with_reducible apply below_chain; with_reducible assumption) | exact Nat.le_refl _ | omega | (simp <;> omega)))⟩
    · obtain ⟨v0, v1, rfl⟩ := hv0 hE
      have hT : bs (textT xs (n + 1) k) = bs (varT xv) := by rw [HAt.out, hE, if_pos rfl]
      rw [hT, h0 rfl]
      clear h0 h1 h2 hv0 hT
      go_enter Try.func62, Try.ntmps62
      go_wp2_with fail
      refine (impl_varText _ xv v0 v1).mono ?_
      rintro r w1 ⟨rfl, hb1⟩
      obtain ⟨kc1, kf1⟩ := bcell hb1; have kz1 := hb1.size; (try simp at kz1); (first | (refine (fun (kw1_0 : w.heap.size  < w1.heap.size) => ?_) ?_; rotate_left; omega) | skip); (first | (refine (fun (kw1_1 : w.heap.size + 1 < w1.heap.size) => ?_) ?_; rotate_left; omega) | skip); (first | (refine (fun (kw1_2 : w.heap.size + 1 + 1 < w1.heap.size) => ?_) ?_; rotate_left; omega) | skip)
      go_wp2_with fail
      go_ret2
      exact ⟨rfl, (by repeat (first | with_reducible exact Below.refl _ _ | with_reducible assumption | with_reducible refine Below.setCell ?_ ?_ _ | with_reducible refine Below.alloc ?_ ?_ _ | with_reducible refine Below.drew ?_ | (with_reducible apply below_chain; with_reducible assumption) | exact Nat.le_refl _ | omega | (simp <;> omega)))⟩
end Go.Proofs.Ytmopjpnghomdfaa
