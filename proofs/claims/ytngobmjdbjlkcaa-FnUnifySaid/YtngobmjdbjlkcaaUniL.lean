import Derived.Test.YtngobmjdbjlkcaaUpB
import Derived.Test.YtngobmjdbjlkcaaDrUni
/- The law of unifiers, over the second engine. -/
namespace Go.Proofs.Ytngobmjdbjlkcaa
set_option linter.unusedVariables false
set_option linter.unusedSimpArgs false
open Go.RowKit
theorem pure_tupU (xs : List D) : Pure (.tup xs) = ∀ d ∈ xs, Pure d := propext ⟨fun h d hd => by
  obtain ⟨j, hj⟩ := List.mem_iff_getElem?.1 hd
  cases h with
  | tup h => exact h j d hj, fun h => .tup fun j d hj => h d (List.mem_of_getElem? hj)⟩
theorem toList_sz (s : ByteArray) : s.toList.length = s.size := by rw [ByteArray.toList_eq]; rfl
theorem itemM_sm {x : TyI} (h : itemM x = true) : x.sm := by
  show x.name.size ≤ 1048576
  unfold itemM at h
  split at h
  · rename_i q
    have : x.name.toList = [] := by simpa using q
    rw [← toList_sz, this]; simp
  · split at h
    · rename_i q
      simp only [Bool.or_eq_true, beq_iff_eq] at q
      rcases q with q | q <;> (rw [← toList_sz, q]; simp)
    · split at h
      · rename_i q
        have q : x.name.toList = [114, 101, 102] := by simpa using q
        rw [← toList_sz, q]; simp
      · have hw : wordM x.name.data.toList = true := by
          simp only [Bool.and_eq_true] at h
          have := h.2.1.1
          unfold nameM at this
          simp only [Bool.and_eq_true] at this
          exact this.1.1
        unfold wordM at hw
        simp only [Bool.and_eq_true, decide_eq_true_eq] at hw
        have := hw.2
        have e : x.name.data.toList.length = x.name.size := rfl
        omega
theorem tyOkM_len {xs : List TyI} (h : tyOkM xs = true) : xs.length ≤ 200 := by unfold tyOkM at h; simp only [Bool.and_eq_true, decide_eq_true_eq] at h; exact h.1
theorem tyOkM_it {xs : List TyI} (h : tyOkM xs = true) : ∀ x ∈ xs, itemM x = true := by unfold tyOkM tyItemsM at h; simp only [Bool.and_eq_true, decide_eq_true_eq, List.all_eq_true] at h; exact h.2.1
/-- what the law asks of two right types' unifier. -/
structure UniLaw (xs ys : List TyI) (l : List SubM) : Prop where
  subs : subsM l = true
  sok : ∀ s ∈ l, s.ok
  sm : smS SubM.sm l
  bx : (putX l xs).length ≤ 40000
  by_ : (putX l ys).length ≤ 40000
  ok : ∀ x ∈ putX l xs, x.ok
  same : tyPutB xs l = tyPutB ys l
  eq : tyPutB xs l = true → tyPutM xs l = tyPutM ys l
  fit : tyPutB xs l = true → fitsM xs (tyPutM xs l) = true
theorem uni_law {xs ys : List TyI} {l : List SubM} (hl : l.length ≤ 400) (hx : tyOkM xs = true) (hy : tyOkM ys = true) (ox : ∀ x ∈ xs, x.ok) (h : UPost (uniQ TyI.ok (varsM (xs ++ ys))) (varsM (xs ++ ys)) [] xs ys l) : UniLaw xs ys l := by
  have hg := h.good
  have hq : ∀ x, uniQ TyI.ok (varsM (xs ++ ys)) x → itemM x = true := fun x h => h.1
  have hs := good_subs hg hq
  have lx := tyOkM_len hx
  have ly := tyOkM_len hy
  have e1 : tyPutB xs l = decide ((putX l xs).length ≤ 200) := by unfold tyPutB; rw [hx, hs]; simp
  have e2 : tyPutB ys l = decide ((putX l ys).length ≤ 200) := by unfold tyPutB; rw [hy, hs]; simp
  have b1 := putX_len (l := l) (B := 200) (by omega) (fun s h => hg.len s h) xs
  have b2 := putX_len (l := l) (B := 200) (by omega) (fun s h => hg.len s h) ys
  have m1 := Nat.mul_le_mul_right 200 lx
  have m2 := Nat.mul_le_mul_right 200 ly
  have qx : ∀ x ∈ xs, uniQ TyI.ok (varsM (xs ++ ys)) x := fun x hm => ⟨tyOkM_it hx x hm, fun hv => (varsM_mem' _ _).2 ⟨x, List.mem_append_left _ hm, hv, rfl⟩, ox x hm⟩
  have hsame : tyPutB xs l = tyPutB ys l := by rw [e1, e2, h.same]
  refine ⟨hs, fun s hm => ?_, ⟨by omega, fun s hm => ⟨by have := hg.len s hm; omega, fun x hx => itemM_sm (hg.q s hm x hx).1⟩⟩, by omega, by omega, fun x hm => (hg.putQ qx x hm).2.2, hsame, fun hb => ?_, fun hb => ?_⟩
  · obtain ⟨x, hx1, -, hx2⟩ := hg.vq s hm
    exact ⟨hx2 ▸ hx1.2.2.1, fun x hx => (hg.q s hm x hx).2.2⟩
  · unfold tyPutM
    rw [if_pos hb, if_pos (hsame ▸ hb), h.same]
  · unfold tyPutM
    rw [if_pos hb]
    rw [e1] at hb
    exact put_fits hg hx (put_tyOk hg hq hx qx (by simpa using hb))
set_option maxRecDepth 100000 in
set_option maxHeartbeats 4000000 in
theorem c_FnUnify (zs : List UInt8) : FCon Try.prog 9 [.sl 1 (zs.map u8E)] (fun r _ => r = .s (.bool true)) := by
  by_cases hz : zs.length ≤ 1048576
  · have hb1 : decide ((zs.length : Int) > 1048576) = false := by simp; omega
    refine FCon.intro PM _ Try.func9 (by kernel_rfl) rfl _ Try.ntmps9 rfl [(12, 19, [], [], (lin [] [0, 1, 2, 3, 4, 5, 6, 7, 8, 9, 10, 11, 12, 13, 14, 15, 16, 17, 18]))] (by decide +kernel) (by simp) (by simp) rfl (by first | rfl | simp only [go_sem]) ?_
    iterate 5 (refine AC_go ?_; simp only [go_sem, simprocAttr, hb1]; (have hWf := WFx.mk @hb1; repeat' (first | refine zY ?_ | with_reducible apply And.intro | ((with_reducible apply q_CallG); refine CallG_mk (c_DrawUnify zs) ?_; rintro _ _ ⟨xs, ys, rfl, hx, hy, ox, oy⟩) | ((with_reducible apply q_CallQ); refine CallQ_mk (c_DrawUnify zs) ?_) | ((with_reducible intro hb0); revert hb0; with_reducible first | exact zB0 | refine zB fun hb => ?_ | fail) | ((with_reducible apply q_Meet); exact zM) | exact zC | refine zT ?_ | fail)))
    obtain ⟨l, c, hU⟩ := uni_both (P := TyI.ok) xs ys ox oy (by omega) (by omega) ox oy
    have ui := hU.impl
    have us := hU.spec
    have hll := hU.len
    by_cases hc : c = 0
    · obtain ⟨tx, ty, hp⟩ := hU.ok hc
      have hL := uni_law hll tx ty ox hp
      subst hc
      have e0 := hL.same
      have b1 := hL.bx
      have b2 := hL.by_
      have P1 := c_implTyPut xs l ox hL.sok (by omega) hL.sm (by omega)
      have P2 := c_implTyPut ys l oy hL.sok (by omega) hL.sm (by omega)
      have P3 := c_implSubsOk l hL.sok hL.sm
      rw [hL.subs] at P3
      rw [← e0] at P2
      cases hb : tyPutB xs l with
      | false =>
        rw [hb] at P1 P2
        (have hWf := WFx.mk @pure_tupU; repeat' (first | refine zS ?_ | exact zE | with_reducible apply And.intro | refine zK (ui) ?_ | refine zK (us) ?_ | refine zK (P1) ?_ | refine zK (P2) ?_ | refine zK (P3) ?_ | ((with_reducible intro hb0); revert hb0; with_reducible first | exact zB0 | refine zB fun hb => ?_ | fail) | ((with_reducible apply q_Meet); exact zM) | exact zC | refine zT ?_ | fail))
        all_goals trace_state
      | true =>
        rw [hb] at P1 P2
        rw [← hL.eq hb] at P2
        have hf := hL.fit hb
        have hm : tyPutM xs l = putX l xs := if_pos hb
        have F := c_implFits xs (tyPutM xs l) ox (hm ▸ hL.ok) (by omega) (by rw [hm]; omega)
        rw [hf] at F
        have T := c_implPrintTy (tyPutM xs l) (hm ▸ hL.ok) (by rw [hm]; omega)
        (have hWf := WFx.mk @pure_tupU; repeat' (first | refine zS ?_ | exact zE | with_reducible apply And.intro | refine zK (ui) ?_ | refine zK (us) ?_ | refine zK (P1) ?_ | refine zK (P2) ?_ | refine zK (P3) ?_ | refine zK (F) ?_ | refine zK (T) ?_ | ((with_reducible intro hb0); revert hb0; with_reducible first | exact zB0 | refine zB fun hb => ?_ | fail) | ((with_reducible apply q_Meet); exact zM) | exact zC | refine zT ?_ | fail))
        all_goals trace_state
    · have hn := hU.no hc
      subst hn
      have e1 : (c == 0) = false := by simpa using hc
      have e2 : (c != 0) = true := by simpa using hc
      (have hWf := WFx.mk (And.intro @e1 <| And.intro @e2 <| @pure_tupU); repeat' (first | refine zS ?_ | exact zE | with_reducible apply And.intro | refine zK (ui) ?_ | refine zK (us) ?_ | ((with_reducible intro hb0); revert hb0; with_reducible first | exact zB0 | refine zB fun hb => ?_ | fail) | ((with_reducible apply q_Meet); exact zM) | exact zC | refine zT ?_ | fail))
      all_goals trace_state
  · have hb1 : decide ((zs.length : Int) > 1048576) = true := by simp; omega
    refine FCon.intro PM _ Try.func9 (by kernel_rfl) rfl _ Try.ntmps9 rfl [(12, 19, [], [], (lin [] [0, 1, 2, 3, 4, 5, 6, 7, 8, 9, 10, 11, 12, 13, 14, 15, 16, 17, 18]))] (by decide +kernel) (by simp) (by simp) rfl (by first | rfl | simp only [go_sem]) ?_
    (have hWf := WFx.mk @hb1; repeat' (first | refine zS ?_ | exact zE | with_reducible apply And.intro | ((with_reducible intro hb0); revert hb0; with_reducible first | exact zB0 | refine zB fun hb => ?_ | fail) | ((with_reducible apply q_Meet); exact zM) | exact zC | refine zT ?_ | fail))
end Go.Proofs.Ytngobmjdbjlkcaa
