import Derived.Test.YtahdaknaoogpkaaGreatTyTxtL
/- The text of a right type determines its items: plain. -/
namespace Go.Proofs.YtahdaknaoogpkaaGreat
set_option linter.unusedVariables false
set_option linter.unusedSimpArgs false
def stopB (r : List UInt8) : Prop := ∀ b, r.head? = some b → worB b = false
theorem stop_cons {b : UInt8} {r : List UInt8} (h : worB b = false) : stopB (b :: r) := fun c hc => by simp at hc; subst hc; exact h
theorem run_split : ∀ {a b r r' : List UInt8}, allWor a = true → allWor b = true → stopB r → stopB r' → a ++ r = b ++ r' → a = b ∧ r = r'
  | [], [], r, r', _, _, _, _, h => ⟨rfl, h⟩
  | [], c :: b, r, r', _, hb, hr, _, h => by
    have h : r = c :: (b ++ r') := h
    have h1 := hr c (by rw [h]; rfl)
    simp only [allWor, List.all_cons, Bool.and_eq_true] at hb
    rw [h1] at hb; exact absurd hb.1 (by simp)
  | c :: a, [], r, r', ha, _, _, hr', h => by
    have h : c :: (a ++ r) = r' := h
    have h1 := hr' c (by rw [← h]; rfl)
    simp only [allWor, List.all_cons, Bool.and_eq_true] at ha
    rw [h1] at ha; exact absurd ha.1 (by simp)
  | c :: a, d :: b, r, r', ha, hb, hr, hr', h => by
    simp only [List.cons_append, List.cons.injEq] at h
    simp only [allWor, List.all_cons, Bool.and_eq_true] at ha hb
    obtain ⟨e1, e2⟩ := run_split (a := a) (b := b) ha.2 hb.2 hr hr' h.2
    exact ⟨by rw [h.1, e1], e2⟩
/-! ### numbers -/
theorem dgt_word {d : Nat} (h : d < 10) : worB (dgt d) = true := by
  unfold worB
  rw [dgt_nat h]
  unfold worI digI
  simp only [Bool.or_eq_true, Bool.and_eq_true, decide_eq_true_eq]
  left; right; omega
theorem decL_word : ∀ n : Nat, allWor (decL n) = true := by
  intro n
  induction n using Nat.strongRecOn with
  | _ n ih =>
    by_cases h : n < 10
    · rw [decL_small h]; simp [allWor, dgt_word h]
    · rw [decL_big h]
      have := ih (n / 10) (by omega)
      simp only [allWor, List.all_append, Bool.and_eq_true, List.all_cons, List.all_nil, Bool.and_true] at this ⊢
      exact ⟨this, dgt_word (by omega)⟩
def dval (l : List UInt8) : Nat := l.foldl (fun a b => a * 10 + (b.toNat - 48)) 0
theorem dval_dec (n : Nat) : dval (decL n) = n := by
  induction n using Nat.strongRecOn with
  | _ n ih =>
    by_cases h : n < 10
    · rw [decL_small h]; simp [dval, dgt_nat h]
    · rw [decL_big h]
      have := ih (n / 10) (by omega)
      unfold dval at this ⊢
      rw [List.foldl_append, this]
      simp only [List.foldl_cons, List.foldl_nil, dgt_nat (show n % 10 < 10 by omega)]
      omega
def vw (v : Int) : List UInt8 := if 25 < v then 122 :: numT v else [UInt8.ofNat (97 + v.toNat)]
theorem varT_vw (v : Int) : varT v = 39 :: vw v := by unfold varT vw; split <;> rfl
theorem vw_word {v : Int} (h0 : 0 ≤ v) (h1 : v ≤ 9999) : allWor (vw v) = true := by
  unfold vw
  split
  · rw [numT_pos (by omega) (by omega)]
    have := decL_word v.toNat
    simp only [allWor, List.all_cons, Bool.and_eq_true] at this ⊢
    exact ⟨by decide, this⟩
  · have : (UInt8.ofNat (97 + v.toNat)).toNat = 97 + v.toNat := by rw [UInt8.toNat_ofNat']; omega
    simp only [allWor, List.all_cons, List.all_nil, Bool.and_true]
    unfold worB
    rw [this]
    unfold worI lowI
    simp only [Bool.or_eq_true, Bool.and_eq_true, decide_eq_true_eq]
    left; left; left; omega
theorem vw_inj {v u : Int} (v0 : 0 ≤ v) (v1 : v ≤ 9999) (u0 : 0 ≤ u) (u1 : u ≤ 9999) (h : vw v = vw u) : v = u := by
  unfold vw at h
  have big : ∀ z : Int, 0 ≤ z → z ≤ 9999 → 0 < (numT z).length ∧ dval (numT z) = z.toNat := fun z z0 z1 => by
    rw [numT_pos (by omega) (by omega)]; exact ⟨decL_pos _, dval_dec _⟩
  have sm : ∀ z : Int, 0 ≤ z → ¬ 25 < z → (UInt8.ofNat (97 + z.toNat)).toNat = 97 + z.toNat := fun z z0 z1 => by rw [UInt8.toNat_ofNat']; omega
  split at h
  · split at h
    · have := congrArg dval (List.cons.inj h).2
      rw [(big v v0 v1).2, (big u u0 u1).2] at this
      omega
    · have := congrArg List.length h
      simp only [List.length_cons, List.length_nil] at this
      have := (big v v0 v1).1; omega
  · split at h
    · have := congrArg List.length h
      simp only [List.length_cons, List.length_nil] at this
      have := (big u u0 u1).1; omega
    · rename_i h1 h2
      have := congrArg UInt8.toNat (List.cons.inj h).1
      rw [sm v v0 h1, sm u u0 h2] at this
      omega
/-! ### items -/
def lowName (l : List UInt8) : Prop := allWor l = true ∧ ∃ c t, l = c :: t ∧ lowB c = true
theorem lowName_of {s : ByteArray} (h : nameM s = true) : lowName s.data.toList := by
  unfold nameM wordM at h
  simp only [Bool.and_eq_true, decide_eq_true_eq] at h
  refine ⟨h.1.1.1.1, ?_⟩
  have h2 := h.1.2
  cases hl : s.data.toList with
  | nil => rw [hl] at h2; cases h2
  | cons c t => rw [hl] at h2; exact ⟨c, t, rfl, h2⟩
inductive TView (xs : List TyI) (n k e : Nat) (x : TyI) (T : List UInt8) : Prop where
  | var : x.name.data.toList = [] → 0 ≤ x.v → x.v ≤ 9999 → x.ar = 0 → e = k + 1 → T = 39 :: vw x.v → TView xs n k e x T
  | n0 : lowName x.name.data.toList → x.v = 0 → x.ar = 0 → e = k + 1 → T = x.name.data.toList → TView xs n k e x T
  | n1 : lowName x.name.data.toList → x.v = 0 → x.ar = 1 → endM xs (k + 1) = e → T = 40 :: (textT xs n (k + 1) ++ (41 :: 32 :: x.name.data.toList)) → TView xs n k e x T
  | n2 (e1 : Nat) : lowName x.name.data.toList → x.v = 0 → x.ar = 2 → endM xs (k + 1) = e1 → endM xs e1 = e → T = 40 :: (textT xs n (k + 1) ++ (44 :: 32 :: (textT xs n e1 ++ (41 :: 32 :: x.name.data.toList)))) → TView xs n k e x T
  | op (e1 : Nat) : (x.name.data.toList = [45, 62] ∨ x.name.data.toList = [42]) → x.v = 0 → x.ar = 2 → endM xs (k + 1) = e1 → endM xs e1 = e → T = 40 :: (textT xs n (k + 1) ++ (32 :: (x.name.data.toList ++ (32 :: (textT xs n e1 ++ [41]))))) → TView xs n k e x T
theorem tview {xs : List TyI} (hx : ∀ x ∈ xs, itemM x = true) {n k e : Nat} (h : endM xs k = e) : ∃ hk : k < xs.length, TView xs n k e xs[k] (textT xs (n + 1) k) := by
  obtain ⟨h1, h2, hk⟩ := endM_bd xs k e h
  refine ⟨hk, ?_⟩
  have hi := hx _ (List.getElem_mem hk)
  rw [textT_at xs n k hk]
  have ht := ByteArray.toList_eq (bs := xs[k].name)
  unfold itemM at hi
  split at hi
  · rename_i he
    simp only [Bool.and_eq_true, decide_eq_true_eq, beq_iff_eq] at hi
    rw [if_pos he, varT_vw]
    rw [List.isEmpty_iff] at he
    exact .var (by rw [← ht]; exact he) hi.1.1 hi.1.2 hi.2 (endM_none xs k e hk h hi.2) rfl
  · rename_i he
    rw [if_neg he]
    simp only [Bool.and_eq_true, beq_iff_eq] at hi
    obtain ⟨hv, hi⟩ := hi
    split at hi
    · rename_i ho
      have ha : xs[k].ar = 2 := by simpa using hi
      rw [if_neg (by omega), if_neg (by omega), if_pos ho]
      obtain ⟨e1, q1, q2⟩ := endM_two xs k e hk h ha
      simp only [Bool.or_eq_true, beq_iff_eq] at ho
      rw [ht] at ho
      refine .op e1 ho hv ha q1 q2 ?_
      rw [q1]; simp
    · rename_i ho
      have key : lowName xs[k].name.data.toList ∧ (xs[k].ar = 0 ∨ xs[k].ar = 1 ∨ xs[k].ar = 2) := by
        split at hi
        · rename_i hr
          have ha : xs[k].ar = 1 := by simpa using hi
          have hr : xs[k].name.toList = [114, 101, 102] := by simpa using hr
          rw [ht] at hr
          exact ⟨by rw [hr]; exact ⟨by decide, 114, [101, 102], rfl, by decide⟩, by omega⟩
        · simp only [Bool.and_eq_true, decide_eq_true_eq] at hi
          exact ⟨lowName_of hi.1.1, by omega⟩
      obtain ⟨hn, ha | ha | ha⟩ := key
      · rw [if_pos ha]
        exact .n0 hn hv ha (endM_none xs k e hk h ha) rfl
      · rw [if_neg (by omega), if_pos ha]
        exact .n1 hn hv ha (endM_one xs k e hk h ha) (by simp)
      · rw [if_neg (by omega), if_neg (by omega), if_neg ho]
        obtain ⟨e1, q1, q2⟩ := endM_two xs k e hk h ha
        refine .n2 e1 hn hv ha q1 q2 ?_
        rw [q1]; simp
def seg (xs : List TyI) (k e : Nat) : List TyI := (xs.drop k).take (e - k)
theorem seg_cons {xs : List TyI} {k e : Nat} (hk : k < xs.length) (he : k < e) : seg xs k e = xs[k] :: seg xs (k + 1) e := by
  unfold seg
  rw [List.drop_eq_getElem_cons hk, show e - k = (e - (k + 1)) + 1 by omega, List.take_succ_cons]
theorem seg_app {xs : List TyI} {k e1 e : Nat} (h1 : k ≤ e1) (h2 : e1 ≤ e) (h3 : e ≤ xs.length) : seg xs k e = seg xs k e1 ++ seg xs e1 e := by
  unfold seg
  rw [show e - k = (e1 - k) + (e - e1) by omega, List.take_add, List.drop_drop, show k + (e1 - k) = e1 by omega]
theorem seg_nil (xs : List TyI) (k : Nat) : seg xs k k = [] := by simp [seg]
theorem item_eq {x y : TyI} (h1 : x.v = y.v) (h2 : x.name.data.toList = y.name.data.toList) (h3 : x.ar = y.ar) : x = y := by
  obtain ⟨v, ⟨⟨l⟩⟩, a⟩ := x
  obtain ⟨u, ⟨⟨m⟩⟩, b⟩ := y
  simp only at h1 h2 h3
  subst h1 h2 h3
  rfl
theorem low_no {c : UInt8} (h : lowB c = true) : c ≠ 39 ∧ c ≠ 40 := ⟨fun e => by subst e; revert h; decide, fun e => by subst e; revert h; decide⟩
theorem textT_inj {xs ys : List TyI} (hx : ∀ x ∈ xs, itemM x = true) (hy : ∀ y ∈ ys, itemM y = true) : ∀ (n n' k k' e e' : Nat), endM xs k = e → endM ys k' = e' → e - k ≤ n → e' - k' ≤ n' → ∀ r r' : List UInt8, stopB r → stopB r' →
    textT xs n k ++ r = textT ys n' k' ++ r' → seg xs k e = seg ys k' e' ∧ r = r' := by
  intro n
  induction n with
  | zero => intro n' k k' e e' h1 h2 hn; have := endM_bd xs k e h1; omega
  | succ n ih =>
    intro n' k k' e e' h1 h2 hn hn' r r' hr hr' H
    have b1 := endM_bd xs k e h1
    have b2 := endM_bd ys k' e' h2
    cases n' with
    | zero => omega
    | succ n' =>
      obtain ⟨hk, v1⟩ := tview (n := n) hx h1
      obtain ⟨hk', v2⟩ := tview (n := n') hy h2
      rw [seg_cons hk (by omega), seg_cons hk' (by omega)]
      have s41 : worB 41 = false := by decide
      have s44 : worB 44 = false := by decide
      have s32 : worB 32 = false := by decide
      rcases v1 with ⟨a1, a2, a3, a4, a5, a6⟩ | ⟨⟨a1, c, t, a2, a3⟩, a4, a5, a6, a7⟩ | ⟨⟨a1, c, t, a2, a3⟩, a4, a5, a6, a7⟩ | ⟨e1, ⟨a1, c, t, a2, a3⟩, a4, a5, a6, a7, a8⟩ | ⟨e1, a1, a4, a5, a6, a7, a8⟩ <;>
      rcases v2 with ⟨d1, d2, d3, d4, d5, d6⟩ | ⟨⟨d1, c', t', d2, d3⟩, d4, d5, d6, d7⟩ | ⟨⟨d1, c', t', d2, d3⟩, d4, d5, d6, d7⟩ | ⟨e1', ⟨d1, c', t', d2, d3⟩, d4, d5, d6, d7, d8⟩ | ⟨e1', d1, d4, d5, d6, d7, d8⟩
      · -- var, var
        rw [a6, d6] at H
        simp only [List.cons_append, List.cons.injEq, true_and] at H
        obtain ⟨q1, q2⟩ := run_split (vw_word a2 a3) (vw_word d2 d3) hr hr' H
        refine ⟨?_, q2⟩
        rw [item_eq (vw_inj a2 a3 d2 d3 q1) (by rw [a1, d1]) (by omega), a5, d5, seg_nil, seg_nil]
      · exfalso; rw [a6, d7, d2] at H; simp only [List.cons_append, List.cons.injEq] at H; exact (low_no d3).1 H.1.symm
      · exfalso; rw [a6, d7] at H; simp only [List.cons_append, List.cons.injEq] at H; exact absurd H.1 (by decide)
      · exfalso; rw [a6, d8] at H; simp only [List.cons_append, List.cons.injEq] at H; exact absurd H.1 (by decide)
      · exfalso; rw [a6, d8] at H; simp only [List.cons_append, List.cons.injEq] at H; exact absurd H.1 (by decide)
      · exfalso; rw [a7, d6, a2] at H; simp only [List.cons_append, List.cons.injEq] at H; exact (low_no a3).1 H.1
      · rw [a7, d7] at H
        obtain ⟨q1, q2⟩ := run_split a1 d1 hr hr' H
        refine ⟨?_, q2⟩
        rw [item_eq (by omega) q1 (by omega), a6, d6, seg_nil, seg_nil]
      · exfalso; rw [a7, d7, a2] at H; simp only [List.cons_append, List.cons.injEq] at H; exact (low_no a3).2 H.1
      · exfalso; rw [a7, d8, a2] at H; simp only [List.cons_append, List.cons.injEq] at H; exact (low_no a3).2 H.1
      · exfalso; rw [a7, d8, a2] at H; simp only [List.cons_append, List.cons.injEq] at H; exact (low_no a3).2 H.1
      · exfalso; rw [a7, d6] at H; simp only [List.cons_append, List.cons.injEq] at H; exact absurd H.1 (by decide)
      · exfalso; rw [a7, d7, d2] at H; simp only [List.cons_append, List.cons.injEq] at H; exact (low_no d3).2 H.1.symm
      · rw [a7, d7] at H
        simp only [List.cons_append, List.append_assoc, List.cons.injEq, true_and] at H
        obtain ⟨q1, q2⟩ := ih n' _ _ _ _ a6 d6 (by omega) (by omega) _ _ (stop_cons s41) (stop_cons s41) H
        simp only [List.cons.injEq, true_and] at q2
        obtain ⟨q3, q4⟩ := run_split a1 d1 hr hr' q2
        exact ⟨by rw [item_eq (by omega) q3 (by omega), q1], q4⟩
      · exfalso; rw [a7, d8] at H
        simp only [List.cons_append, List.append_assoc, List.cons.injEq, true_and] at H
        obtain ⟨q1, q2⟩ := ih n' _ _ _ _ a6 d6 (by omega) (by have := endM_bd _ _ _ d6; have := endM_bd _ _ _ d7; omega) _ _ (stop_cons s41) (stop_cons s44) H
        simp only [List.cons.injEq] at q2; exact absurd q2.1 (by decide)
      · exfalso; rw [a7, d8] at H
        simp only [List.cons_append, List.append_assoc, List.cons.injEq, true_and] at H
        obtain ⟨q1, q2⟩ := ih n' _ _ _ _ a6 d6 (by omega) (by have := endM_bd _ _ _ d6; have := endM_bd _ _ _ d7; omega) _ _ (stop_cons s41) (stop_cons s32) H
        simp only [List.cons.injEq] at q2; exact absurd q2.1 (by decide)
      · exfalso; rw [a8, d6] at H; simp only [List.cons_append, List.cons.injEq] at H; exact absurd H.1 (by decide)
      · exfalso; rw [a8, d7, d2] at H; simp only [List.cons_append, List.cons.injEq] at H; exact (low_no d3).2 H.1.symm
      · exfalso; rw [a8, d7] at H
        simp only [List.cons_append, List.append_assoc, List.cons.injEq, true_and] at H
        obtain ⟨q1, q2⟩ := ih n' _ _ _ _ a6 d6 (by have := endM_bd _ _ _ a6; have := endM_bd _ _ _ a7; omega) (by omega) _ _ (stop_cons s44) (stop_cons s41) H
        simp only [List.cons.injEq] at q2; exact absurd q2.1 (by decide)
      · have z1 := endM_bd _ _ _ a6; have z2 := endM_bd _ _ _ a7; have z3 := endM_bd _ _ _ d6; have z4 := endM_bd _ _ _ d7
        rw [a8, d8] at H
        simp only [List.cons_append, List.append_assoc, List.cons.injEq, true_and] at H
        obtain ⟨q1, q2⟩ := ih n' _ _ _ _ a6 d6 (by omega) (by omega) _ _ (stop_cons s44) (stop_cons s44) H
        simp only [List.cons.injEq, true_and] at q2
        obtain ⟨q3, q4⟩ := ih n' _ _ _ _ a7 d7 (by omega) (by omega) _ _ (stop_cons s41) (stop_cons s41) q2
        simp only [List.cons.injEq, true_and] at q4
        obtain ⟨q5, q6⟩ := run_split a1 d1 hr hr' q4
        exact ⟨by rw [item_eq (by omega) q5 (by omega), seg_app (e1 := e1) (by omega) (by omega) (by omega), seg_app (xs := ys) (e1 := e1') (by omega) (by omega) (by omega), q1, q3], q6⟩
      · exfalso; rw [a8, d8] at H
        simp only [List.cons_append, List.append_assoc, List.cons.injEq, true_and] at H
        obtain ⟨q1, q2⟩ := ih n' _ _ _ _ a6 d6 (by have := endM_bd _ _ _ a6; have := endM_bd _ _ _ a7; omega) (by have := endM_bd _ _ _ d6; have := endM_bd _ _ _ d7; omega) _ _ (stop_cons s44) (stop_cons s32) H
        simp only [List.cons.injEq] at q2; exact absurd q2.1 (by decide)
      · exfalso; rw [a8, d6] at H; simp only [List.cons_append, List.cons.injEq] at H; exact absurd H.1 (by decide)
      · exfalso; rw [a8, d7, d2] at H; simp only [List.cons_append, List.cons.injEq] at H; exact (low_no d3).2 H.1.symm
      · exfalso; rw [a8, d7] at H
        simp only [List.cons_append, List.append_assoc, List.cons.injEq, true_and] at H
        obtain ⟨q1, q2⟩ := ih n' _ _ _ _ a6 d6 (by have := endM_bd _ _ _ a6; have := endM_bd _ _ _ a7; omega) (by omega) _ _ (stop_cons s32) (stop_cons s41) H
        simp only [List.cons.injEq] at q2; exact absurd q2.1 (by decide)
      · exfalso; rw [a8, d8] at H
        simp only [List.cons_append, List.append_assoc, List.cons.injEq, true_and] at H
        obtain ⟨q1, q2⟩ := ih n' _ _ _ _ a6 d6 (by have := endM_bd _ _ _ a6; have := endM_bd _ _ _ a7; omega) (by have := endM_bd _ _ _ d6; have := endM_bd _ _ _ d7; omega) _ _ (stop_cons s32) (stop_cons s44) H
        simp only [List.cons.injEq] at q2; exact absurd q2.1 (by decide)
      · have z1 := endM_bd _ _ _ a6; have z2 := endM_bd _ _ _ a7; have z3 := endM_bd _ _ _ d6; have z4 := endM_bd _ _ _ d7
        rw [a8, d8] at H
        simp only [List.cons_append, List.append_assoc, List.cons.injEq, true_and] at H
        obtain ⟨q1, q2⟩ := ih n' _ _ _ _ a6 d6 (by omega) (by omega) _ _ (stop_cons s32) (stop_cons s32) H
        simp only [List.cons.injEq, true_and] at q2
        have hnm : xs[k].name.data.toList = ys[k'].name.data.toList ∧ textT xs n e1 ++ ([41] ++ r) = textT ys n' e1' ++ ([41] ++ r') := by
          rcases a1 with a1 | a1 <;> rcases d1 with d1 | d1 <;> rw [a1, d1] at q2 ⊢ <;> simp_all
        obtain ⟨q3, q4⟩ := ih n' _ _ _ _ a7 d7 (by omega) (by omega) _ _ (stop_cons s41) (stop_cons s41) hnm.2
        simp only [List.cons_append, List.nil_append, List.cons.injEq, true_and] at q4
        exact ⟨by rw [item_eq (by omega) hnm.1 (by omega), seg_app (e1 := e1) (by omega) (by omega) (by omega), seg_app (xs := ys) (e1 := e1') (by omega) (by omega) (by omega), q1, q3], q4⟩
theorem printTyM_inj {xs ys : List TyI} (hx : tyOkM xs = true) (hy : tyOkM ys = true) (h : printTyM xs = printTyM ys) : xs = ys := by
  rw [printTyM_ok hx, printTyM_ok hy] at h
  unfold tyOkM tyItemsM at hx hy
  simp only [Bool.and_eq_true, decide_eq_true_eq, List.all_eq_true] at hx hy
  obtain ⟨q, -⟩ := textT_inj hx.2.1 hy.2.1 xs.length ys.length 0 0 xs.length ys.length hx.2.2 hy.2.2 (by omega) (by omega) [] [] (fun b hb => by cases hb) (fun b hb => by cases hb) (by rw [h])
  simpa [seg] using q
end Go.Proofs.YtahdaknaoogpkaaGreat
