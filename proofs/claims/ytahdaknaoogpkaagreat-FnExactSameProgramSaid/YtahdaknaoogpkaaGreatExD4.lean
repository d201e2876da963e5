import Derived.Test.YtahdaknaoogpkaaGreatExD3
/- The decoder reads the text of a right expression: plain. Printed by exd.py. -/
namespace Go.Proofs.YtahdaknaoogpkaaGreat
set_option linter.unusedVariables false
set_option linter.unusedSimpArgs false
open Arb
def noL : List UInt8 := [58, 41, 33, 43, 45, 42, 47, 37, 94, 61, 60, 32]
def kwS : List (List UInt8) := [[108, 101, 116], [102, 117, 110], [105, 102], [109, 97, 116, 99, 104], [114, 97, 105, 115, 101], [116, 114, 121], [114, 101, 102]]
inductive TxK (L : List UInt8) : Prop where
  | br (u : List UInt8) : L = 40 :: u → TxK L
  | qu (u : List UInt8) : L = 34 :: u → TxK L
  | ls : L = [91, 93] → TxK L
  | wo (c : UInt8) (u : List UInt8) : allWor L = true → L = c :: u → c ≠ 34 → c ≠ 91 → c ≠ 40 → c ∉ noL → L ∉ kwS → TxK L
theorem no_of {c : UInt8} (p : UInt8 → Bool) (h : p c = true) (hp : ∀ d ∈ noL, p d = false) : c ∉ noL := fun hm => by rw [hp c hm] at h; cases h
theorem kw_of {s : ByteArray} (h : nameM s = true) : s.data.toList ∉ kwS ∧ s.data.toList ≠ [114, 101, 99] := by
  have hk := not_kw h
  have e : ∀ l : List UInt8, inL (bs l) kwList = true → s.data.toList ≠ l := fun l hl q => hk _ ((inL_iff _ _).1 hl) (by rw [← q, bs_of])
  refine ⟨fun hm => ?_, e _ (by decide)⟩
  unfold kwS at hm
  simp only [List.mem_cons, List.not_mem_nil, or_false] at hm
  rcases hm with q | q | q | q | q | q | q <;> exact e _ (by decide) q
theorem kw_head {c : UInt8} {u : List UInt8} (h : c ≠ 108 ∧ c ≠ 102 ∧ c ≠ 105 ∧ c ≠ 109 ∧ c ≠ 114 ∧ c ≠ 116) : c :: u ∉ kwS := fun hm => by
  unfold kwS at hm
  simp only [List.mem_cons, List.not_mem_nil, or_false, List.cons.injEq] at hm
  obtain ⟨a1, a2, a3, a4, a5, a6⟩ := h
  rcases hm with q | q | q | q | q | q | q
  · exact a1 q.1
  · exact a2 q.1
  · exact a3 q.1
  · exact a4 q.1
  · exact a5 q.1
  · exact a6 q.1
  · exact a5 q.1
theorem tk_name {s : ByteArray} (h : nameM s = true) : TxK s.data.toList := by
  obtain ⟨hw, c, u, e, hc⟩ := lowName_of h
  have q := low_not hc
  exact .wo c u hw e q.2.2.2.2.2.2.1 q.2.2.1 q.2.2.2.2.1 (no_of lowB hc (by decide)) (kw_of h).1
theorem tk_num (n : Nat) : TxK (decL n) := by
  obtain ⟨c, u, e, hc⟩ := decL_head n
  have q := dig_not hc
  refine .wo c u (decL_word n) e q.2.2.2.2.2.2.1 q.2.2.1 q.2.2.2.2.1 (no_of digB hc (by decide)) ?_
  rw [e]
  refine kw_head ⟨?_, ?_, ?_, ?_, ?_, ?_⟩ <;> (rintro rfl; revert hc; decide)
theorem tk_con {s : ByteArray} (h : shapeM s 0 false = true) : TxK s.data.toList := by
  unfold shapeM at h
  rw [ByteArray.toList_eq] at h
  split at h
  · rename_i q
    simp only [Bool.or_eq_true, beq_iff_eq] at q
    rcases q with (q | q) | q
    · rw [q]; exact .wo _ _ (by decide) rfl (by decide) (by decide) (by decide) (by decide) (by decide)
    · rw [q]; exact .wo _ _ (by decide) rfl (by decide) (by decide) (by decide) (by decide) (by decide)
    · exact .ls q
  · split at h
    · simp at h
    · simp only [Bool.and_eq_true] at h
      obtain ⟨hw, c, u, e, hc⟩ := conM_parts h.1
      have q := upp_not hc
      refine .wo c u hw e q.2.2.2.2.2.2.1 q.2.2.1 q.2.2.2.2.1 (no_of uppB hc (by decide)) ?_
      rw [e]
      refine kw_head ⟨?_, ?_, ?_, ?_, ?_, ?_⟩ <;> (rintro rfl; revert hc; decide)
theorem tk_conM {s : ByteArray} (h : conM s.data.toList = true) : TxK s.data.toList := tk_con (wk_conM h).1
theorem etx_tk {t : ET} (ok : okT t) : TxK (etx t).data.toList := by
  obtain ⟨a, l⟩ := t
  have v := ok.root.v
  cases v with
  | int k e h0 h1 =>
    rw [etx_int k, toL_bs, numT_pos (by omega) (by omega)]; exact tk_num _
  | str k e => rw [etx_str k, toL_bs]; exact .qu _ rfl
  | var k e h => rw [etx_var k]; exact tk_name h
  | unit k e => rw [etx_unit k]; exact .br _ rfl
  | con0 k e h => subst e; rw [etx_con0 k]; exact tk_con h
  | cons b x y k e _ h => subst e; rw [etx_cons k h]; exact .br _ (by simp only [toL_app, List.cons_append, List.append_assoc]; rfl)
  | con1 x k e h => subst e; rw [etx_con1 k (conM_ne58 h)]; exact .br _ (by simp only [toL_app, List.cons_append, List.append_assoc]; rfl)
  | app x y k e =>
    subst e
    obtain ⟨b, r⟩ := x
    by_cases hc : b.kind = 4 ∧ r.length = 0
    · obtain ⟨hc1, hc2⟩ := hc
      obtain rfl := List.eq_nil_of_length_eq_zero hc2
      rw [etx_appc k hc1]; exact .br _ (by simp only [toL_app, List.cons_append, List.append_assoc]; rfl)
    · rw [etx_app k hc]; exact .br _ (by simp only [toL_app, List.cons_append, List.append_assoc]; rfl)
  | func x k e => subst e; rw [etx_func k]; exact .br _ (by simp only [toL_app, List.cons_append, List.append_assoc]; rfl)
  | let_ x y k e => subst e; rw [etx_let k]; exact .br _ (by simp only [toL_app, List.cons_append, List.append_assoc]; rfl)
  | rec_ b x y k e => subst e; rw [etx_rec k]; exact .br _ (by simp only [toL_app, List.cons_append, List.append_assoc]; rfl)
  | if_ x y z k e => subst e; rw [etx_if k]; exact .br _ (by simp only [toL_app, List.cons_append, List.append_assoc]; rfl)
  | prim x y k e => subst e; rw [etx_prim k]; exact .br _ (by simp only [toL_app, List.cons_append, List.append_assoc]; rfl)
  | pair x y k e => subst e; rw [etx_pair k]; exact .br _ (by simp only [toL_app, List.cons_append, List.append_assoc]; rfl)
  | raise x k e => subst e; rw [etx_raise k]; exact .br _ (by simp only [toL_app, List.cons_append, List.append_assoc]; rfl)
  | try_ x y k e => subst e; rw [etx_try k]; exact .br _ (by simp only [toL_app, List.cons_append, List.append_assoc]; rfl)
  | ref x k e => subst e; rw [etx_ref k]; exact .br _ (by simp only [toL_app, List.cons_append, List.append_assoc]; rfl)
  | get x k e => subst e; rw [etx_get k]; exact .br _ (by simp only [toL_app, List.cons_append, List.append_assoc]; rfl)
  | set x y k e => subst e; rw [etx_set k]; exact .br _ (by simp only [toL_app, List.cons_append, List.append_assoc]; rfl)
  | seq x y k e => subst e; rw [etx_seq k]; exact .br _ (by simp only [toL_app, List.cons_append, List.append_assoc]; rfl)
  | mat x r k e => subst e; rw [etx_mat k]; exact .br _ (by simp only [toL_app, List.cons_append, List.append_assoc]; rfl)
theorem TxK.hd {L : List UInt8} (h : TxK L) : ∃ c u, L = c :: u ∧ c ∉ noL := by
  cases h with
  | br u e => exact ⟨_, _, e, by decide⟩
  | qu u e => exact ⟨_, _, e, by decide⟩
  | ls e => exact ⟨_, _, e, by decide⟩
  | wo c u _ e _ _ _ h => exact ⟨c, u, e, h⟩
def pcN (s : List UInt8) : Prop := wd2 s = [] ∨ (af2 s).head? ≠ some 41
theorem pc_no {s : List UInt8} (h : pcN s) : pc (40 :: s) = false := by
  unfold pc pcN at *
  rcases h with h | h
  · rw [List.tail_cons, h]; simp
  · rw [List.tail_cons]; simp [h]
theorem pcN_head {c : UInt8} {m : List UInt8} (h : p2 c = false) : pcN (c :: m) := .inl (by unfold wd2; rw [List.takeWhile_cons, if_neg (by rw [h]; simp)])
theorem tw_app {p : UInt8 → Bool} {w : List UInt8} (hw : w.all p = true) {c : UInt8} {m : List UInt8} (hc : p c = false) : (w ++ c :: m).takeWhile p = w ∧ (w ++ c :: m).dropWhile p = c :: m := by
  induction w with
  | nil => simp [hc]
  | cons b w ih =>
    simp only [List.all_cons, Bool.and_eq_true] at hw
    obtain ⟨h1, h2⟩ := ih hw.2
    simp only [List.cons_append, List.takeWhile_cons, List.dropWhile_cons, hw.1, if_true, h1, h2, and_self]
theorem pcN_stop {w : List UInt8} (hw : w.all p2 = true) {c : UInt8} {m : List UInt8} (hc : p2 c = false) (h : c ≠ 41) : pcN (w ++ c :: m) := .inr (by unfold af2; rw [(tw_app hw hc).2]; simpa using h)
theorem wor_p2 {w : List UInt8} (h : allWor w = true) : w.all p2 = true := by
  unfold allWor at h
  rw [List.all_eq_true] at h ⊢
  intro b hb; unfold p2; rw [h b hb]; rfl
theorem TxK.pcN {L : List UInt8} (h : TxK L) {c : UInt8} {m : List UInt8} (hc : p2 c = false) (h41 : c ≠ 41) : pcN (L ++ c :: m) := by
  cases h with
  | br u e => subst e; exact pcN_head (by decide)
  | qu u e => subst e; exact pcN_head (by decide)
  | ls e => subst e; exact pcN_stop (by decide) hc h41
  | wo c u hw e => exact pcN_stop (wor_p2 hw) hc h41
theorem wd_nil {c : UInt8} {m : List UInt8} (h : worB c = false) : wd (c :: m) = [] := by unfold wd; rw [List.takeWhile_cons, if_neg (by rw [h]; simp)]
theorem wd_tk {L : List UInt8} (h : TxK L) {c : UInt8} {m : List UInt8} (hc : worB c = false) : wd (L ++ c :: m) ∉ kwS := by
  cases h with
  | br u e => subst e; rw [List.cons_append, wd_nil (by decide)]; decide
  | qu u e => subst e; rw [List.cons_append, wd_nil (by decide)]; decide
  | ls e => subst e; rw [List.cons_append, wd_nil (by decide)]; decide
  | wo c u hw e _ _ _ _ hk => rw [wd_app hw (stop_cons hc)]; exact hk
theorem cls_of {s : List UInt8} {c : UInt8} {u : List UInt8} (e : s = c :: u) (h : c ∉ noL) (hk : wd s ∉ kwS) : cls s = if pc s = true then 6 else 0 := by
  have h1 : c ≠ 41 := fun q => h (by subst q; decide)
  have h2 : c ≠ 33 := fun q => h (by subst q; decide)
  have hd : s.head? = some c := by rw [e]; rfl
  have k : ∀ l ∈ kwS, wd s ≠ l := fun l hl q => hk (q ▸ hl)
  unfold cls
  rw [hd, if_neg (by simpa using h1), if_neg (by simpa using h2), if_neg (k _ (by decide)), if_neg (k _ (by decide)), if_neg (k _ (by decide)), if_neg (k _ (by decide)), if_neg (k _ (by decide)), if_neg (k _ (by decide)), if_neg (k _ (by decide))]
theorem pc_tx {t : ET} (ok : okT t) {c : UInt8} {m : List UInt8} (hc : p2 c = false) (h41 : c ≠ 41) : pc ((etx t).data.toList ++ c :: m) = false := by
  have T := etx_tk ok
  cases hT : T with
  | qu u e => rw [e]; rfl
  | ls e => rw [e]; rfl
  | wo c u hw e _ _ h40 => rw [e]; unfold pc; simp [h40]
  | br u e =>
    clear hT e u
    obtain ⟨a, l⟩ := t
    have v := ok.root.v
    have ok1 := ok.kid
    have nb : ∀ {L : List UInt8}, (∃ c u, L = c :: u ∧ c ≠ 40) → pc (L ++ c :: m) = false := fun ⟨c, u, e, h⟩ => by rw [e]; unfold pc; simp [h]
    cases v with
    | int k e h0 h1 =>
      rw [etx_int k, toL_bs, numT_pos (by omega) (by omega)]
      obtain ⟨c, u, e, hc⟩ := decL_head a.n.toNat
      exact nb ⟨c, u, e, (dig_not hc).2.2.2.2.1⟩
    | str k e => rw [etx_str k, toL_bs]; exact nb ⟨_, _, rfl, by decide⟩
    | var k e h =>
      rw [etx_var k]
      obtain ⟨hw, c, u, e, hc⟩ := lowName_of h
      exact nb ⟨c, u, e, (low_not hc).2.2.2.2.1⟩
    | con0 k e h =>
      subst e
      rw [etx_con0 k]
      cases tk_con h with
      | br u e => exfalso; by_cases h5 : a.s.data.toList = [91, 93]
                  · rw [h5] at e; cases e
                  · exact (con_hd h h5 e).2.2.2 rfl
      | qu u e => exact nb ⟨_, _, e, by decide⟩
      | ls e => exact nb ⟨_, _, e, by decide⟩
      | wo c u hw e _ _ h40 => exact nb ⟨_, _, e, h40⟩
    | unit k e => rw [etx_unit k]; exact pc_no (pcN_head (by decide))
    | cons b x y k e _ h =>
      subst e
      have q : (etx (.mk a [.mk b [x, y]])).data.toList ++ c :: m = 40 :: ((etx x).data.toList ++ 32 :: (58 :: 58 :: 32 :: ((etx y).data.toList ++ 41 :: c :: m))) := by rw [etx_cons k h]; simp [toL_app]
      rw [q]; exact pc_no ((etx_tk ((ok1 (.mk b [x, y]) (by simp)).kid x (by simp))).pcN (by decide) (by decide))
    | con1 x k e h =>
      subst e
      have q : (etx (.mk a [x])).data.toList ++ c :: m = 40 :: (a.s.data.toList ++ 32 :: ((etx x).data.toList ++ 41 :: c :: m)) := by rw [etx_con1 k (conM_ne58 h)]; simp [toL_app]
      rw [q]; exact pc_no ((tk_conM h).pcN (by decide) (by decide))
    | app x y k e =>
      subst e
      have ox := ok1 x (by simp)
      obtain ⟨b, r⟩ := x
      by_cases hc : b.kind = 4 ∧ r.length = 0
      · obtain ⟨hc1, hc2⟩ := hc
        obtain rfl := List.eq_nil_of_length_eq_zero hc2
        have q : (etx (.mk a [.mk b [], y])).data.toList ++ c :: m = 40 :: 40 :: ((etx (.mk b [])).data.toList ++ 41 :: 32 :: ((etx y).data.toList ++ 41 :: c :: m)) := by rw [etx_appc k hc1]; simp [toL_app]
        rw [q]; exact pc_no (pcN_head (by decide))
      · have q : (etx (.mk a [.mk b r, y])).data.toList ++ c :: m = 40 :: ((etx (.mk b r)).data.toList ++ 32 :: ((etx y).data.toList ++ 41 :: c :: m)) := by rw [etx_app k hc]; simp [toL_app]
        rw [q]; exact pc_no ((etx_tk ox).pcN (by decide) (by decide))
    | prim x y k e =>
      subst e
      have q : (etx (.mk a [x, y])).data.toList ++ c :: m = 40 :: ((etx x).data.toList ++ 32 :: (a.s.data.toList ++ 32 :: ((etx y).data.toList ++ 41 :: c :: m))) := by rw [etx_prim k]; simp [toL_app]
      rw [q]; exact pc_no ((etx_tk (ok1 x (by simp))).pcN (by decide) (by decide))
    | pair x y k e =>
      subst e
      have q : (etx (.mk a [x, y])).data.toList ++ c :: m = 40 :: ((etx x).data.toList ++ 44 :: 32 :: ((etx y).data.toList ++ 41 :: c :: m)) := by rw [etx_pair k]; simp [toL_app]
      rw [q]; exact pc_no ((etx_tk (ok1 x (by simp))).pcN (by decide) (by decide))
    | set x y k e =>
      subst e
      have q : (etx (.mk a [x, y])).data.toList ++ c :: m = 40 :: ((etx x).data.toList ++ 32 :: 58 :: 61 :: 32 :: ((etx y).data.toList ++ 41 :: c :: m)) := by rw [etx_set k]; simp [toL_app]
      rw [q]; exact pc_no ((etx_tk (ok1 x (by simp))).pcN (by decide) (by decide))
    | seq x y k e =>
      subst e
      have q : (etx (.mk a [x, y])).data.toList ++ c :: m = 40 :: ((etx x).data.toList ++ 59 :: 32 :: ((etx y).data.toList ++ 41 :: c :: m)) := by rw [etx_seq k]; simp [toL_app]
      rw [q]; exact pc_no ((etx_tk (ok1 x (by simp))).pcN (by decide) (by decide))
    | get x k e =>
      subst e
      have q : (etx (.mk a [x])).data.toList ++ c :: m = 40 :: 33 :: (32 :: (etx x).data.toList ++ 41 :: c :: m) := by rw [etx_get k]; simp [toL_app]
      rw [q]; exact pc_no (pcN_head (by decide))
    | func x k e =>
      subst e
      obtain ⟨u, q⟩ : ∃ u, (etx (.mk a [x])).data.toList ++ c :: m = 40 :: ([102, 117, 110] ++ 32 :: u) := by rw [etx_func k]; exact ⟨_, by simp only [toL_app, List.cons_append, List.append_assoc]; rfl⟩
      rw [q]; exact pc_no (pcN_stop (by decide) (by decide) (by decide))
    | let_ x y k e =>
      subst e
      obtain ⟨u, q⟩ : ∃ u, (etx (.mk a [x, y])).data.toList ++ c :: m = 40 :: ([108, 101, 116] ++ 32 :: u) := by rw [etx_let k]; exact ⟨_, by simp only [toL_app, List.cons_append, List.append_assoc]; rfl⟩
      rw [q]; exact pc_no (pcN_stop (by decide) (by decide) (by decide))
    | rec_ b x y k e =>
      subst e
      obtain ⟨u, q⟩ : ∃ u, (etx (.mk a [.mk b [x], y])).data.toList ++ c :: m = 40 :: ([108, 101, 116] ++ 32 :: u) := by rw [etx_rec k]; exact ⟨_, by simp only [toL_app, List.cons_append, List.append_assoc]; rfl⟩
      rw [q]; exact pc_no (pcN_stop (by decide) (by decide) (by decide))
    | if_ x y z k e =>
      subst e
      obtain ⟨u, q⟩ : ∃ u, (etx (.mk a [x, y, z])).data.toList ++ c :: m = 40 :: ([105, 102] ++ 32 :: u) := by rw [etx_if k]; exact ⟨_, by simp only [toL_app, List.cons_append, List.append_assoc]; rfl⟩
      rw [q]; exact pc_no (pcN_stop (by decide) (by decide) (by decide))
    | raise x k e =>
      subst e
      obtain ⟨u, q⟩ : ∃ u, (etx (.mk a [x])).data.toList ++ c :: m = 40 :: ([114, 97, 105, 115, 101] ++ 32 :: u) := by rw [etx_raise k]; exact ⟨_, by simp only [toL_app, List.cons_append, List.append_assoc]; rfl⟩
      rw [q]; exact pc_no (pcN_stop (by decide) (by decide) (by decide))
    | try_ x y k e =>
      subst e
      obtain ⟨u, q⟩ : ∃ u, (etx (.mk a [x, y])).data.toList ++ c :: m = 40 :: ([116, 114, 121] ++ 32 :: u) := by rw [etx_try k]; exact ⟨_, by simp only [toL_app, List.cons_append, List.append_assoc]; rfl⟩
      rw [q]; exact pc_no (pcN_stop (by decide) (by decide) (by decide))
    | ref x k e =>
      subst e
      obtain ⟨u, q⟩ : ∃ u, (etx (.mk a [x])).data.toList ++ c :: m = 40 :: ([114, 101, 102] ++ 32 :: u) := by rw [etx_ref k]; exact ⟨_, by simp only [toL_app, List.cons_append, List.append_assoc]; rfl⟩
      rw [q]; exact pc_no (pcN_stop (by decide) (by decide) (by decide))
    | mat x r k e =>
      subst e
      obtain ⟨u, q⟩ : ∃ u, (etx (.mk a (x :: r))).data.toList ++ c :: m = 40 :: ([109, 97, 116, 99, 104] ++ 32 :: u) := by rw [etx_mat k]; exact ⟨_, by simp only [toL_app, List.cons_append, List.append_assoc]; rfl⟩
      rw [q]; exact pc_no (pcN_stop (by decide) (by decide) (by decide))
end Go.Proofs.YtahdaknaoogpkaaGreat
