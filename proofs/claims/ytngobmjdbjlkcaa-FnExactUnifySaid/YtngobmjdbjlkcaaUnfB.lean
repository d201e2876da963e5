import Derived.Test.YtngobmjdbjlkcaaUniB
import Derived.Test.YtngobmjdbjlkcaaUniP
import Derived.Test.YtngobmjdbjlkcaaFitB
import Derived.Test.YtngobmjdbjlkcaaHTyPut
/- Unify of both sides, over the second engine. -/
namespace Go.Proofs.Ytngobmjdbjlkcaa
set_option linter.unusedVariables false
set_option linter.unusedSimpArgs false
open Go.RowKit
theorem itemM_var {x : TyI} (h : itemM x = true) (hv : varB x = true) : x.ar = 0 := by
  unfold varB at hv
  unfold itemM at h
  rw [if_pos hv] at h
  simp only [Bool.and_eq_true, beq_iff_eq] at h
  exact h.2
theorem itemM_con {x : TyI} (h : itemM x = true) (hv : varB x = false) : x.v = 0 := by
  unfold varB at hv
  unfold itemM at h
  rw [if_neg (by rw [hv]; simp)] at h
  simp only [Bool.and_eq_true, beq_iff_eq] at h
  exact h.1
theorem tyOkM_wfV {xs : List TyI} (h : tyOkM xs = true) : wfV xs := by
  unfold tyOkM tyItemsM at h
  simp only [Bool.and_eq_true, decide_eq_true_eq, List.all_eq_true] at h
  exact ⟨(rowT_one xs).2 h.2.2, fun x hx => itemM_ar (h.2.1 x hx), fun x hx => itemM_var (h.2.1 x hx)⟩
def uniQ (P : TyI → Prop) (V : List Int) (x : TyI) : Prop := itemM x = true ∧ (varB x = true → x.v ∈ V) ∧ P x
/-- the solver's run from nothing. -/
theorem uni_run {P : TyI → Prop} {xs ys : List TyI} (hx : tyOkM xs = true) (hy : tyOkM ys = true) (pxs : ∀ x ∈ xs, P x) (pys : ∀ y ∈ ys, P y) : ∃ n r, UOk n [] xs ys ∧ uniM n [] xs ys = some r ∧ (r.2 = 0 → UPost (uniQ P (varsM (xs ++ ys))) (varsM (xs ++ ys)) [] xs ys r.1) := by
  have hlx : xs.length ≤ 200 := by unfold tyOkM at hx; simp only [Bool.and_eq_true, decide_eq_true_eq] at hx; exact hx.1
  have hly : ys.length ≤ 200 := by unfold tyOkM at hy; simp only [Bool.and_eq_true, decide_eq_true_eq] at hy; exact hy.1
  have hix : ∀ x ∈ xs, itemM x = true := by unfold tyOkM tyItemsM at hx; simp only [Bool.and_eq_true, decide_eq_true_eq, List.all_eq_true] at hx; exact hx.2.1
  have hiy : ∀ x ∈ ys, itemM x = true := by unfold tyOkM tyItemsM at hy; simp only [Bool.and_eq_true, decide_eq_true_eq, List.all_eq_true] at hy; exact hy.2.1
  have bd : ∀ zs : List TyI, zs.length ≤ 200 → Bd (uniQ P (varsM (xs ++ ys))) [] zs := fun zs hz l' _ hg => by
    have h1 := putX_len (l := l') (B := 200) (by omega) (fun s hs => hg.len s hs) zs
    have := Nat.mul_le_mul_right 200 hz
    omega
  have hun : unb (varsM (xs ++ ys)) [] ≤ 400 := by
    have h1 : unb (varsM (xs ++ ys)) [] ≤ (varsM (xs ++ ys)).length := List.length_filter_le _ _
    have h2 := varsM_len' (xs ++ ys)
    rw [List.length_append] at h2
    omega
  obtain ⟨n, hn⟩ : ∃ n, unb (varsM (xs ++ ys)) [] * 40001 + (putX [] xs).length < n := ⟨_, Nat.lt_succ_self _⟩
  obtain ⟨h1, r, h2, h3⟩ := uni_main (Q := uniQ P (varsM (xs ++ ys))) (V := varsM (xs ++ ys)) (fun x h => h.2.1) (fun x h hv => itemM_con h.1 hv) (B := 400) (by omega) n [] xs ys (GoodL.nil _) (tyOkM_wfV hx) (tyOkM_wfV hy)
    (fun i hi => ⟨hix i hi, fun hv => (varsM_mem' _ _).2 ⟨i, List.mem_append_left _ hi, hv, rfl⟩, pxs i hi⟩) (fun i hi => ⟨hiy i hi, fun hv => (varsM_mem' _ _).2 ⟨i, List.mem_append_right _ hi, hv, rfl⟩, pys i hi⟩) (bd xs hlx) (bd ys hly) (by simp; exact hun) hn
  exact ⟨n, r, h1, h2, h3⟩
def resU (r : List SubM × Int) : List SubM := if r.2 = 0 then r.1 else []
theorem nil_tup {g : Gh} {w : World} {d d' : D} {y : D} {v : Value} (h : ∀ u, RN g w 0 d u → RN g w 0 d' u) (hv : RNs g w (.tup [d, y]) v) : RNs g w (.tup [d', y]) v := by
  obtain ⟨us, e, hl, hr⟩ := hv
  refine ⟨us, e, hl, fun m x u hx hu => ?_⟩
  match m, hx with
  | 0, hx =>
    have hx : d' = x := by simpa using hx
    subst hx
    exact h u (hr 0 d u rfl hu)
  | 1, hx => exact hr 1 x u hx hu
  | m + 2, hx => simp at hx
/-- other words for the arguments. -/
theorem FCon.arg {P : Program} {f : FuncId} {args : List D} {Rs : D → List D → Prop} (h : FCon P f args Rs) (args' : List D) (hl : args'.length = args.length) (ha : ∀ (j : Nat) (d' d : D), args'[j]? = some d' → args[j]? = some d → ∀ (g : Gh) (w : World) (u : Value), RA g w j d' u → RA g w j d u) : FCon P f args' Rs :=
  ⟨h.ent, fun w g vs h1 h2 h3 h4 => h.run w g vs h1 h2 (h3.trans hl) fun j d u hd hu => by
    have hj : j < args'.length := by rw [hl]; exact (List.getElem?_eq_some_iff.1 hd).1
    exact ha j _ d (List.getElem?_eq_getElem hj) hd g w u (h4 j _ u (List.getElem?_eq_getElem hj) hu)⟩
theorem RA_nilO {g : Gh} {w : World} {j e k : Nat} {u : Value} (h : RA g w j (.opt [.nil]) u) : RA g w j (.opt [.osl e k []]) u := by
  have h : Rep g.S g.up w (some (.par j 0)) (.opt [.nil]) u := h
  show Rep g.S g.up w (some (.par j 0)) (.opt [.osl e k []]) u
  cases h with
  | opt cs h1 h2 h3 h4 =>
    refine .opt cs h1 h2 (by simpa using h3) fun i d hi => ?_
    match i, hi with
    | 0, hi =>
      have hi : D.osl e k [] = d := by simpa using hi
      subst hi
      exact Rep.nil_osl _ _ (h4 0 .nil rfl)
    | i + 1, hi => simp at hi
theorem RA_nilS {g : Gh} {w : World} {j k : Nat} {u : Value} (h : RA g w j .nil u) : RA g w j (.sl k []) u := Rep.nil_sl k (show Rep g.S g.up w (some (.par j 0)) .nil u from h)
theorem FCon.tupO {P : Program} {f : FuncId} {args : List D} {e k : Nat} {c : D} (h : FCon P f args (fun r _ => r = .tup [.nil, c])) : FCon P f args (fun r _ => r = .tup [.osl e k [], c]) := h.wk fun r o e' => by
  subst e'
  exact ⟨_, rfl, fun g w v hv => nil_tup (d := .nil) (fun u hu => Rep.nil_osl _ _ (show Rep g.S g.up w (some (.ans 0 0)) .nil u from hu)) hv⟩
theorem FCon.tupS {P : Program} {f : FuncId} {args : List D} {k : Nat} {c : D} (h : FCon P f args (fun r _ => r = .tup [.nil, c])) : FCon P f args (fun r _ => r = .tup [.sl k [], c]) := h.wk fun r o e' => by
  subst e'
  exact ⟨_, rfl, fun g w v hv => nil_tup (d := .nil) (fun u hu => Rep.nil_sl _ (show Rep g.S g.up w (some (.ans 0 0)) .nil u from hu)) hv⟩
def mixU (l : List SubM) (k : Nat) : List (List D) := (l.take k).map SubM.own ++ (l.drop k).map SubM.enc
theorem mixU_zero (l : List SubM) : mixU l 0 = l.map SubM.enc := rfl
theorem mixU_all (l : List SubM) : mixU l l.length = l.map SubM.own := by unfold mixU; rw [List.take_length, List.drop_length]; simp
theorem mixU_len (l : List SubM) (k : Nat) : (mixU l k).length = l.length := by unfold mixU; rw [List.length_append, List.length_map, List.length_map, List.length_take, List.length_drop]; simp only [Nat.min_def]; split <;> omega
theorem mixU_get {l : List SubM} {k : Nat} (h : k < l.length) : (mixU l k).getD k [] = l[k].enc := by
  unfold mixU
  have : ((l.take k).map SubM.own).length = k := by rw [List.length_map, List.length_take]; omega
  rw [List.getD_eq_getElem?_getD, List.getElem?_append_right (by omega), this, Nat.sub_self, List.getElem?_map, List.getElem?_drop, Nat.add_zero, List.getElem?_eq_getElem h]; rfl
theorem mixU_set {l : List SubM} {k : Nat} (h : k < l.length) : (mixU l k).set k l[k].own = mixU l (k + 1) := by
  unfold mixU
  have e : ((l.take k).map SubM.own).length = k := by rw [List.length_map, List.length_take]; omega
  rw [List.set_append_right _ _ (by omega), e, Nat.sub_self, List.drop_eq_getElem_cons h, List.map_cons, List.set_cons_zero, List.take_succ_eq_append_getElem h, List.map_append]
  simp
theorem c_specUnify_bad (xs ys : List TyI) (hox : ∀ x ∈ xs, x.ok) (hoy : ∀ y ∈ ys, y.ok) (hlx : xs.length ≤ 1048576) (hly : ys.length ≤ 1048576) (h : (tyOkM xs && tyOkM ys) = false) : FCon Try.prog 35 [.ag [.sl 3 (xs.map TyI.enc)], .ag [.sl 3 (ys.map TyI.enc)]] (fun r _ => r = .tup [.nil, .s (.int .i64 1)]) := by
  cases hx : tyOkM xs with
  | false =>
    refine FCon.intro PM _ Try.func35 (by kernel_rfl) rfl _ Try.ntmps35 rfl [] (by decide +kernel) (by simp) (by simp) rfl (by first | rfl | simp only [go_sem]) ?_
    (have hWf := WFx.mk @hx; repeat' (first | refine zS ?_ | exact zE | with_reducible apply And.intro | ((with_reducible apply q_CallG); refine zG (c_specTyOk xs hox (by omega)) ?_) | ((with_reducible apply q_CallQ); refine CallQ_mk (c_specTyOk xs hox (by omega)) ?_) | ((with_reducible intro hb0); revert hb0; with_reducible first | exact zB0 | refine zB fun hb => ?_ | fail) | ((with_reducible apply q_Meet); exact zM) | exact zC | refine zT ?_ | fail))
  | true =>
    rw [hx, Bool.true_and] at h
    refine FCon.intro PM _ Try.func35 (by kernel_rfl) rfl _ Try.ntmps35 rfl [] (by decide +kernel) (by simp) (by simp) rfl (by first | rfl | simp only [go_sem]) ?_
    (have hWf := WFx.mk (And.intro @hx <| @h); repeat' (first | refine zS ?_ | exact zE | with_reducible apply And.intro | ((with_reducible apply q_CallG); refine zG (c_specTyOk xs hox (by omega)) ?_) | ((with_reducible apply q_CallQ); refine CallQ_mk (c_specTyOk xs hox (by omega)) ?_) | ((with_reducible apply q_CallG); refine zG (c_specTyOk ys hoy (by omega)) ?_) | ((with_reducible apply q_CallQ); refine CallQ_mk (c_specTyOk ys hoy (by omega)) ?_) | ((with_reducible intro hb0); revert hb0; with_reducible first | exact zB0 | refine zB fun hb => ?_ | fail) | ((with_reducible apply q_Meet); exact zM) | exact zC | refine zT ?_ | fail))
theorem c_implUnify_bad (xs ys : List TyI) (hox : ∀ x ∈ xs, x.ok) (hoy : ∀ y ∈ ys, y.ok) (hlx : xs.length ≤ 1048576) (hly : ys.length ≤ 1048576) (h : (tyOkM xs && tyOkM ys) = false) : FCon Try.prog 36 [.ag [.sl 3 (xs.map TyI.enc)], .ag [.sl 3 (ys.map TyI.enc)]] (fun r _ => r = .tup [.nil, .s (.int .i64 1)]) := by
  cases hx : tyOkM xs with
  | false =>
    refine FCon.intro PM _ Try.func36 (by kernel_rfl) rfl _ Try.ntmps36 rfl [(4, 7, [], [], (lin [] [0, 1, 2, 3, 4, 5, 6])), (10, 9, [8], [(8, 0), (8, 1), (8, 2), (8, 3), (8, 4)], (lin [8] [0, 1, 2, 3, 4, 5, 6, 7, 8]))] (by decide +kernel) (by simp) (by simp) rfl (by first | rfl | simp only [go_sem]) ?_
    (have hWf := WFx.mk @hx; repeat' (first | refine zS ?_ | exact zE | with_reducible apply And.intro | ((with_reducible apply q_CallG); refine zG (c_implTyOk xs hox (by omega)) ?_) | ((with_reducible apply q_CallQ); refine CallQ_mk (c_implTyOk xs hox (by omega)) ?_) | ((with_reducible intro hb0); revert hb0; with_reducible first | exact zB0 | refine zB fun hb => ?_ | fail) | ((with_reducible apply q_Meet); exact zM) | exact zC | refine zT ?_ | fail))
  | true =>
    rw [hx, Bool.true_and] at h
    refine FCon.intro PM _ Try.func36 (by kernel_rfl) rfl _ Try.ntmps36 rfl [(4, 7, [], [], (lin [] [0, 1, 2, 3, 4, 5, 6])), (10, 9, [8], [(8, 0), (8, 1), (8, 2), (8, 3), (8, 4)], (lin [8] [0, 1, 2, 3, 4, 5, 6, 7, 8]))] (by decide +kernel) (by simp) (by simp) rfl (by first | rfl | simp only [go_sem]) ?_
    (have hWf := WFx.mk (And.intro @hx <| @h); repeat' (first | refine zS ?_ | exact zE | with_reducible apply And.intro | ((with_reducible apply q_CallG); refine zG (c_implTyOk xs hox (by omega)) ?_) | ((with_reducible apply q_CallQ); refine CallQ_mk (c_implTyOk xs hox (by omega)) ?_) | ((with_reducible apply q_CallG); refine zG (c_implTyOk ys hoy (by omega)) ?_) | ((with_reducible apply q_CallQ); refine CallQ_mk (c_implTyOk ys hoy (by omega)) ?_) | ((with_reducible intro hb0); revert hb0; with_reducible first | exact zB0 | refine zB fun hb => ?_ | fail) | ((with_reducible apply q_Meet); exact zM) | exact zC | refine zT ?_ | fail))
theorem c_specUnify_ok (xs ys : List TyI) (hox : ∀ x ∈ xs, x.ok) (hoy : ∀ y ∈ ys, y.ok) (hlx : xs.length ≤ 1048576) (hly : ys.length ≤ 1048576) (hx : tyOkM xs = true) (hy : tyOkM ys = true) {n : Nat} {r : List SubM × Int} (hU : UOk n [] xs ys) (hr : uniM n [] xs ys = some r) : FCon Try.prog 35 [.ag [.sl 3 (xs.map TyI.enc)], .ag [.sl 3 (ys.map TyI.enc)]] (fun q _ => q = ansU r) := by
  have hc := c_l05Unify n [] xs ys r hU hr
  have hc' : FCon Try.prog 89 [.ag [.sl 3 (xs.map TyI.enc)], .ag [.sl 3 (ys.map TyI.enc)], .nil] (fun q _ => q = ansU r) := hc.arg _ rfl fun j d' d h1 h2 g w u hu => by
      match j, h1, h2 with
      | 0, h1, h2 => rw [← Option.some.inj h2, Option.some.inj h1]; exact hu
      | 1, h1, h2 => rw [← Option.some.inj h2, Option.some.inj h1]; exact hu
      | 2, h1, h2 =>
        rw [← Option.some.inj h2]; rw [← Option.some.inj h1] at hu
        exact RA_nilS hu
      | j + 3, h1, h2 => simp at h1
  by_cases hz : r.2 = 0
  · rw [ansU_0 hz] at hc' ⊢
    refine FCon.intro PM _ Try.func35 (by kernel_rfl) rfl _ Try.ntmps35 rfl [] (by decide +kernel) (by simp) (by simp) rfl (by first | rfl | simp only [go_sem]) ?_
    (have hWf := WFx.mk (And.intro @hx <| @hy); repeat' (first | refine zS ?_ | exact zE | with_reducible apply And.intro | ((with_reducible apply q_CallG); refine zG (c_specTyOk xs hox (by omega)) ?_) | ((with_reducible apply q_CallQ); refine CallQ_mk (c_specTyOk xs hox (by omega)) ?_) | ((with_reducible apply q_CallG); refine zG (c_specTyOk ys hoy (by omega)) ?_) | ((with_reducible apply q_CallQ); refine CallQ_mk (c_specTyOk ys hoy (by omega)) ?_) | refine zK (hc') ?_ | ((with_reducible intro hb0); revert hb0; with_reducible first | exact zB0 | refine zB fun hb => ?_ | fail) | ((with_reducible apply q_Meet); exact zM) | exact zC | refine zT ?_ | fail))
  · rw [ansU_n hz] at hc' ⊢
    refine FCon.intro PM _ Try.func35 (by kernel_rfl) rfl _ Try.ntmps35 rfl [] (by decide +kernel) (by simp) (by simp) rfl (by first | rfl | simp only [go_sem]) ?_
    (have hWf := WFx.mk (And.intro @hx <| @hy); repeat' (first | refine zS ?_ | exact zE | with_reducible apply And.intro | ((with_reducible apply q_CallG); refine zG (c_specTyOk xs hox (by omega)) ?_) | ((with_reducible apply q_CallQ); refine CallQ_mk (c_specTyOk xs hox (by omega)) ?_) | ((with_reducible apply q_CallG); refine zG (c_specTyOk ys hoy (by omega)) ?_) | ((with_reducible apply q_CallQ); refine CallQ_mk (c_specTyOk ys hoy (by omega)) ?_) | refine zK (hc') ?_ | ((with_reducible intro hb0); revert hb0; with_reducible first | exact zB0 | refine zB fun hb => ?_ | fail) | ((with_reducible apply q_Meet); exact zM) | exact zC | refine zT ?_ | fail))
set_option maxRecDepth 100000 in
set_option maxHeartbeats 2000000 in
theorem c_implUnify_ok (xs ys : List TyI) (hox : ∀ x ∈ xs, x.ok) (hoy : ∀ y ∈ ys, y.ok) (hlx : xs.length ≤ 1048576) (hly : ys.length ≤ 1048576) (hx : tyOkM xs = true) (hy : tyOkM ys = true) {n : Nat} {r : List SubM × Int} (hU : UOk n [] xs ys) (hr : uniM n [] xs ys = some r) (hp : r.2 = 0 → r.1.length ≤ 1000000 ∧ ∀ s ∈ r.1, 0 < s.ty.length ∧ s.ty.length ≤ 1000000) : FCon Try.prog 36 [.ag [.sl 3 (xs.map TyI.enc)], .ag [.sl 3 (ys.map TyI.enc)]] (fun q _ => q = .tup [.osl 77 2 ((resU r).map SubM.own), .s (.int .i64 r.2)]) := by
  have hc := c_unify n [] xs ys r hU hr
  have hc := hc.arg [.opt [.nil], .sl 3 (xs.map TyI.enc), .sl 3 (ys.map TyI.enc)] rfl fun j d' d h1 h2 g w u hu => by
      match j, h1, h2 with
      | 0, h1, h2 =>
        rw [← Option.some.inj h2]; rw [← Option.some.inj h1] at hu
        exact RA_nilO hu
      | 1, h1, h2 => rw [← Option.some.inj h2, Option.some.inj h1]; exact hu
      | 2, h1, h2 => rw [← Option.some.inj h2, Option.some.inj h1]; exact hu
      | j + 3, h1, h2 => simp at h1
  have px := (tyOkM_wfV hx).pos
  have py := (tyOkM_wfV hy).pos
  by_cases hz : r.2 = 0
  · have e1 : (r.2 != 0) = false := by simp [hz]
    obtain ⟨hpl, hp⟩ := hp hz
    rw [hz]
    have hres : resU r = r.1 := if_pos hz
    rw [hres]
    refine FCon.intro PM _ Try.func36 (by kernel_rfl) rfl _ Try.ntmps36 rfl [(4, 7, [], [], (lin [] [0, 1, 2, 3, 4, 5, 6])), (10, 9, [8], [(8, 0), (8, 1), (8, 2), (8, 3), (8, 4)], (lin [8] [0, 1, 2, 3, 4, 5, 6, 7, 8]))] (by decide +kernel) (by simp) (by simp) rfl (by first | rfl | simp only [go_sem]) ?_
    (have hWf := WFx.mk (And.intro @hx <| And.intro @hy <| @e1); repeat' (first | refine zS ?_ | exact zE | with_reducible apply And.intro | ((with_reducible apply q_CallG); refine zG (c_implTyOk xs hox (by omega)) ?_) | ((with_reducible apply q_CallQ); refine CallQ_mk (c_implTyOk xs hox (by omega)) ?_) | ((with_reducible apply q_CallG); refine zG (c_implTyOk ys hoy (by omega)) ?_) | ((with_reducible apply q_CallQ); refine CallQ_mk (c_implTyOk ys hoy (by omega)) ?_) | ((with_reducible apply q_CallG); refine zG (c_Clone_Ty xs px (by omega)) ?_) | ((with_reducible apply q_CallQ); refine CallQ_mk (c_Clone_Ty xs px (by omega)) ?_) | ((with_reducible apply q_CallG); refine zG (c_Clone_Ty ys py (by omega)) ?_) | ((with_reducible apply q_CallQ); refine CallQ_mk (c_Clone_Ty ys py (by omega)) ?_) | ((with_reducible apply q_CallG); refine CallG_mk (hc) ?_; rintro _ _ ⟨rfl, rfl⟩) | ((with_reducible apply q_CallQ); refine CallQ_mk (hc) ?_) | ((with_reducible intro hb0); revert hb0; with_reducible first | exact zB0 | refine zB fun hb => ?_ | fail) | ((with_reducible apply q_Meet); exact zM) | exact zC | refine zT ?_ | fail))
    refine AC_loop (fun n σ => ∃ k : Nat, k ≤ r.1.length ∧ n = r.1.length - k ∧ σ.t 6 = .bx 19 0 ∧ σ.t 34 = .bs 1000019 2 r.1.length ∧ σ.t 35 = .s (.int .i64 r.1.length) ∧ σ.t 36 = .s (.int .i64 k) ∧ σ.b 19 = some (.box [.bs 1000019 2 r.1.length]) ∧ σ.b 1000019 = some (.arr 77 2 (mixU r.1 k))) r.1.length ⟨0, by omega, by omega, ?_⟩ ?_
    · simp only [go_sem, simprocAttr, Int.natCast_zero, mixU_zero]
    · rintro n σ ⟨k, hk, rfl, h6, h34, h35, h36, b0, b1⟩ K' hK
      have hml := mixU_len r.1 k
      by_cases hlt : k < r.1.length
      · have hx := mixU_get hlt
        have he := SubM.enc_eq r.1[k]
        have hst := mixU_set hlt
        rw [SubM.own_eq] at hst
        obtain ⟨p1, p2⟩ := hp r.1[k] (List.getElem_mem hlt)
        have hcl := c_Clone_Ty r.1[k].ty p1 (by omega)
        (have hWf := WFx.mk (And.intro @h6 <| And.intro @h34 <| And.intro @h35 <| And.intro @h36 <| And.intro @b0 <| And.intro @b1 <| And.intro @hx <| And.intro @he <| And.intro @hml <| @hst); repeat' (first | refine zS ?_ | exact zE | with_reducible apply And.intro | ((with_reducible apply q_CallE); refine CallE_mk (FCon.noout hcl) ?_) | ((with_reducible intro hb0); revert hb0; with_reducible first | exact zB0 | refine zB fun hb => ?_ | fail) | ((with_reducible apply q_Meet); exact zM) | exact zC | refine zT ?_ | fail))
        refine hK (r.1.length - (k + 1)) _ (by omega) ⟨k + 1, by omega, rfl, ?_⟩
        simp only [go_sem, simprocAttr, h6, h34, h35, h36, b0, b1, Int.natCast_succ, hst]
      · obtain rfl : k = r.1.length := by omega
        rw [mixU_all] at b1
        (have hWf := WFx.mk (And.intro @h6 <| And.intro @h34 <| And.intro @h35 <| And.intro @h36 <| And.intro @b0 <| @b1); repeat' (first | refine zS ?_ | exact zE | with_reducible apply And.intro | ((with_reducible intro hb0); revert hb0; with_reducible first | exact zB0 | refine zB fun hb => ?_ | fail) | ((with_reducible apply q_Meet); exact zM) | exact zC | refine zT ?_ | fail))
  · have e1 : (r.2 != 0) = true := by simp [hz]
    have hres : resU r = [] := if_neg hz
    rw [hres]
    refine FCon.tupO ?_
    refine FCon.intro PM _ Try.func36 (by kernel_rfl) rfl _ Try.ntmps36 rfl [(4, 7, [], [], (lin [] [0, 1, 2, 3, 4, 5, 6])), (10, 9, [8], [(8, 0), (8, 1), (8, 2), (8, 3), (8, 4)], (lin [8] [0, 1, 2, 3, 4, 5, 6, 7, 8]))] (by decide +kernel) (by simp) (by simp) rfl (by first | rfl | simp only [go_sem]) ?_
    (have hWf := WFx.mk (And.intro @hx <| And.intro @hy <| @e1); repeat' (first | refine zS ?_ | exact zE | with_reducible apply And.intro | ((with_reducible apply q_CallG); refine zG (c_implTyOk xs hox (by omega)) ?_) | ((with_reducible apply q_CallQ); refine CallQ_mk (c_implTyOk xs hox (by omega)) ?_) | ((with_reducible apply q_CallG); refine zG (c_implTyOk ys hoy (by omega)) ?_) | ((with_reducible apply q_CallQ); refine CallQ_mk (c_implTyOk ys hoy (by omega)) ?_) | ((with_reducible apply q_CallG); refine zG (c_Clone_Ty xs px (by omega)) ?_) | ((with_reducible apply q_CallQ); refine CallQ_mk (c_Clone_Ty xs px (by omega)) ?_) | ((with_reducible apply q_CallG); refine zG (c_Clone_Ty ys py (by omega)) ?_) | ((with_reducible apply q_CallQ); refine CallQ_mk (c_Clone_Ty ys py (by omega)) ?_) | ((with_reducible apply q_CallG); refine CallG_mk (hc) ?_; rintro _ _ ⟨rfl, rfl⟩) | ((with_reducible apply q_CallQ); refine CallQ_mk (hc) ?_) | ((with_reducible intro hb0); revert hb0; with_reducible first | exact zB0 | refine zB fun hb => ?_ | fail) | ((with_reducible apply q_Meet); exact zM) | exact zC | refine zT ?_ | fail))
/-- what both sides answer. -/
structure UniAns (P : TyI → Prop) (xs ys : List TyI) (l : List SubM) (c : Int) : Prop where
  impl : FCon Try.prog 36 [.ag [.sl 3 (xs.map TyI.enc)], .ag [.sl 3 (ys.map TyI.enc)]] (fun q _ => q = .tup [.osl 77 2 (l.map SubM.own), .s (.int .i64 c)])
  spec : FCon Try.prog 35 [.ag [.sl 3 (xs.map TyI.enc)], .ag [.sl 3 (ys.map TyI.enc)]] (fun q _ => q = .tup [.sl 2 (l.map SubM.enc), .s (.int .i64 c)])
  no : c ≠ 0 → l = []
  ok : c = 0 → tyOkM xs = true ∧ tyOkM ys = true ∧ UPost (uniQ P (varsM (xs ++ ys))) (varsM (xs ++ ys)) [] xs ys l
  len : l.length ≤ 400
theorem uni_both {P : TyI → Prop} (xs ys : List TyI) (hox : ∀ x ∈ xs, x.ok) (hoy : ∀ y ∈ ys, y.ok) (hlx : xs.length ≤ 1048576) (hly : ys.length ≤ 1048576) (pxs : ∀ x ∈ xs, P x) (pys : ∀ y ∈ ys, P y) : ∃ l c, UniAns P xs ys l c := by
  cases h : (tyOkM xs && tyOkM ys) with
  | false => exact ⟨[], 1, (c_implUnify_bad xs ys hox hoy hlx hly h).tupO, (c_specUnify_bad xs ys hox hoy hlx hly h).tupS, fun _ => rfl, fun h => (by cases h), Nat.zero_le _⟩
  | true =>
    simp only [Bool.and_eq_true] at h
    obtain ⟨hx, hy⟩ := h
    obtain ⟨n, r, hU, hr, hp⟩ := uni_run (P := P) hx hy pxs pys
    have hlen : r.2 = 0 → r.1.length ≤ 400 := fun hz => by
      have h0 := (hp hz).room
      have h1 : unb (varsM (xs ++ ys)) [] ≤ (varsM (xs ++ ys)).length := List.length_filter_le _ _
      have h2 := varsM_len' (xs ++ ys)
      have hlx : xs.length ≤ 200 := by unfold tyOkM at hx; simp only [Bool.and_eq_true, decide_eq_true_eq] at hx; exact hx.1
      have hly : ys.length ≤ 200 := by unfold tyOkM at hy; simp only [Bool.and_eq_true, decide_eq_true_eq] at hy; exact hy.1
      rw [List.length_append] at h2
      simp only [List.length_nil] at h0
      omega
    have hi := c_implUnify_ok xs ys hox hoy hlx hly hx hy hU hr fun hz => ⟨by have := hlen hz; omega, fun s hs => ⟨((hp hz).good.wf s hs).pos, by have := (hp hz).good.len s hs; omega⟩⟩
    have hs := c_specUnify_ok xs ys hox hoy hlx hly hx hy hU hr
    refine ⟨resU r, r.2, hi, ?_, fun h => if_neg h, fun h => ⟨hx, hy, ?_⟩, ?_⟩
    · by_cases hz : r.2 = 0
      · rw [ansU_0 hz] at hs
        rw [hz, show resU r = r.1 from if_pos hz]; exact hs
      · rw [ansU_n hz] at hs
        rw [show resU r = [] from if_neg hz]; exact hs.tupS
    · rw [show resU r = r.1 from if_pos h]; exact hp h
    · unfold resU
      split
      · exact hlen (by assumption)
      · exact Nat.zero_le _
end Go.Proofs.Ytngobmjdbjlkcaa

/- The law of TyPut, over the second engine. -/
namespace Go.Proofs.Ytngobmjdbjlkcaa
set_option linter.unusedVariables false
set_option linter.unusedSimpArgs false
open Go.RowKit
theorem pure_tupL (xs : List D) : Pure (.tup xs) = ∀ d ∈ xs, Pure d := propext ⟨fun h d hd => by
  obtain ⟨j, hj⟩ := List.mem_iff_getElem?.1 hd
  cases h with
  | tup h => exact h j d hj, fun h => .tup fun j d hj => h d (List.mem_of_getElem? hj)⟩
theorem cnts_bound {α : Type} {c : α → Nat} {B : Nat} : ∀ l : List α, (∀ x ∈ l, c x ≤ B) → cnts c l ≤ l.length * B
  | [], _ => by simp [cnts]
  | x :: l, h => by
    have := cnts_bound l fun y hy => h y (by simp [hy])
    have h2 := h x (by simp)
    rw [cnts, List.length_cons, Nat.add_mul]; omega
theorem tyPutM_sm {xs : List TyI} {l : List SubM} (h : smS TyI.sm xs) (hs : smS SubM.sm l) : smS TyI.sm (tyPutM xs l) := by
  unfold tyPutM
  split
  · rename_i hb
    unfold tyPutB at hb
    simp only [Bool.and_eq_true, decide_eq_true_eq] at hb
    refine ⟨by omega, fun x hx => ?_⟩
    obtain ⟨y, hy, hxy⟩ := List.mem_flatMap.1 hx
    unfold putI at hxy
    split at hxy
    · split at hxy
      · rename_i s hf; exact (hs.2 s (List.mem_of_find?_eq_some hf)).2 x hxy
      · simp at hxy; subst hxy; exact h.2 x hy
    · simp at hxy; subst hxy; exact h.2 x hy
  · exact ⟨by simp, fun x hx => by cases hx⟩
set_option maxRecDepth 100000 in
set_option maxHeartbeats 8000000 in
theorem c_FnExactTyPut (xs : List TyI) (l : List SubM) (ho : ∀ x ∈ xs, x.ok) (hol : ∀ s ∈ l, s.ok) : FCon Try.prog 4 [.ag [.sl 3 (xs.map TyI.enc)], .sl 2 (l.map SubM.enc)] (fun r _ => r = .s (.bool true)) := by
  refine FCon.intro PM _ Try.func4 (by kernel_rfl) rfl _ Try.ntmps4 rfl [(14, 3, [], [], (lin [] [0, 1, 2]))] (by decide +kernel) (by simp) (by simp) rfl (by first | rfl | simp only [go_sem]) ?_
  by_cases hz : smS TyI.sm xs ∧ smS SubM.sm l
  · obtain ⟨hx, hs⟩ := hz
    have hm : (⟨xs⟩ : MTy).sm := hx
    have hg : (⟨tyPutM xs l⟩ : MTy).sm := tyPutM_sm hx hs
    have hl := hx.1
    have hls := hs.1
    have hb0 : (putX l xs).length ≤ 2199023255552 := by
      have := putX_bound (l := l) (fun s h => (hs.2 s h).1) xs
      have : xs.length * 1048576 ≤ 1048576 * 1048576 := Nat.mul_le_mul_right _ hl
      omega
    have hc1 : (MTy.cnt ⟨xs⟩ : Nat) = 3 * xs.length := cnts_const (fun _ => rfl) xs
    have hc2 : (MTy.cnt ⟨tyPutM xs l⟩ : Nat) = 3 * (tyPutM xs l).length := cnts_const (fun _ => rfl) _
    have hc3 : (tyPutM xs l).length ≤ 1048576 := hg.1
    have hc4 : cnts SubM.cnt l ≤ 3298535931904 := by
      have h1 := cnts_bound (c := SubM.cnt) (B := 3145729) l fun s h => by
        have e : cnts TyI.cnt s.ty = 3 * s.ty.length := cnts_const (fun _ => rfl) _
        have := (hs.2 s h).1
        show 1 + cnts TyI.cnt s.ty ≤ _
        omega
      have : l.length * 3145729 ≤ 1048576 * 3145729 := Nat.mul_le_mul_right _ hls
      omega
    (have hWf := WFx.mk (And.intro @MTy.enc_eq <| And.intro @MTy.own_eq <| And.intro @MTy.mark_eq <| And.intro @marks_len <| @pure_tupL); repeat' (first | refine zS ?_ | exact zE | with_reducible apply And.intro | ((with_reducible apply q_CallG); refine CallG_mk (c_szTy ⟨xs⟩ ho _ (by omega) (by omega)) ?_; rintro _ _ ⟨z, rfl, za, zb, zc⟩) | ((with_reducible apply q_CallQ); refine CallQ_mk (c_szTy ⟨xs⟩ ho _ (by omega) (by omega)) ?_) | ((with_reducible apply q_CallG); refine CallG_mk (c_szSubS l hol _ (by omega) (by omega)) ?_; rintro _ _ ⟨y, rfl, ya, yb, yc⟩) | ((with_reducible apply q_CallQ); refine CallQ_mk (c_szSubS l hol _ (by omega) (by omega)) ?_) | refine zK (c_toTy ⟨xs⟩ hm) ?_ | refine zK (c_toSubS l hs) ?_ | refine zK (c_specTyPut xs l ho hol hl hs hb0) ?_ | refine zK (c_implTyPut xs l ho hol hl hs hb0) ?_ | refine zK (c_eqTy ⟨tyPutM xs l⟩) ?_ | refine zK (c_eqTy ⟨xs⟩) ?_ | refine zK (c_eqSubS l) ?_ | ((with_reducible apply q_CallG); refine CallG_mk (c_markTy ⟨xs⟩ hm 1 (by omega) (by omega)) ?_; rintro _ _ ⟨rfl, rfl⟩) | ((with_reducible apply q_CallQ); refine CallQ_mk (c_markTy ⟨xs⟩ hm 1 (by omega) (by omega)) ?_) | ((with_reducible apply q_CallG); refine CallG_mk (c_markSubS l hs _ (by omega) (by omega)) ?_; rintro _ _ ⟨rfl, rfl⟩) | ((with_reducible apply q_CallQ); refine CallQ_mk (c_markSubS l hs _ (by omega) (by omega)) ?_) | ((with_reducible apply q_CallG); refine CallG_mk (c_markTy ⟨tyPutM xs l⟩ hg 1 (by omega) (by omega)) ?_; rintro _ _ ⟨rfl, rfl⟩) | ((with_reducible apply q_CallQ); refine CallQ_mk (c_markTy ⟨tyPutM xs l⟩ hg 1 (by omega) (by omega)) ?_) | ((with_reducible apply q_CallG); refine zG (c_heldTy ⟨tyPutM xs l⟩ hg 1 (by omega) (by omega)) ?_) | ((with_reducible apply q_CallQ); refine CallQ_mk (c_heldTy ⟨tyPutM xs l⟩ hg 1 (by omega) (by omega)) ?_) | ((with_reducible intro hb0); revert hb0; with_reducible first | exact zB0 | refine zB fun hb => ?_ | fail) | ((with_reducible apply q_Meet); exact zM) | exact zC | refine zT ?_ | fail))
  · (have hWf := f0; repeat' (first | refine zS ?_ | exact zE | with_reducible apply And.intro | ((with_reducible apply q_CallG); refine CallG_mk (c_szTy ⟨xs⟩ ho _ (by omega) (by omega)) ?_; rintro _ _ ⟨z, rfl, za, zb, zc⟩) | ((with_reducible apply q_CallQ); refine CallQ_mk (c_szTy ⟨xs⟩ ho _ (by omega) (by omega)) ?_) | ((with_reducible apply q_CallG); refine CallG_mk (c_szSubS l hol _ (by omega) (by omega)) ?_; rintro _ _ ⟨y, rfl, ya, yb, yc⟩) | ((with_reducible apply q_CallQ); refine CallQ_mk (c_szSubS l hol _ (by omega) (by omega)) ?_) | ((with_reducible intro hb0); revert hb0; with_reducible first | exact zB0 | refine zB fun hb => ?_ | fail) | ((with_reducible apply q_Meet); exact zM) | exact zC | refine zT ?_ | fail))
    all_goals exact absurd ⟨zc (by omega), yc (by omega)⟩ hz
end Go.Proofs.Ytngobmjdbjlkcaa

/- The law of Unify, over the second engine. -/
namespace Go.Proofs.Ytngobmjdbjlkcaa
set_option linter.unusedVariables false
set_option linter.unusedSimpArgs false
open Go.RowKit
set_option maxRecDepth 100000 in
set_option maxHeartbeats 900000 in
theorem c_FnExactUnify (xs ys : List TyI) (hox : ∀ x ∈ xs, x.ok) (hoy : ∀ y ∈ ys, y.ok) : FCon Try.prog 7 [.ag [.sl 3 (xs.map TyI.enc)], .ag [.sl 3 (ys.map TyI.enc)]] (fun r _ => r = .s (.bool true)) := by
  refine FCon.intro PM _ Try.func7 (by kernel_rfl) rfl _ Try.ntmps7 rfl [(8, 9, [4], [], (lin [4] [0, 1, 2, 3, 4, 5, 6, 7, 8])), (14, 3, [], [], (lin [] [0, 1, 2])), (16, 3, [], [], (lin [] [0, 1, 2])), (31, 9, [], [], (lin [] [0, 1, 2, 3, 4, 5, 6, 7, 8]))] (by decide +kernel) (by simp) (by simp) rfl (by first | rfl | simp only [go_sem]) ?_
  by_cases hz : smS TyI.sm xs ∧ smS TyI.sm ys
  · obtain ⟨hx, hy⟩ := hz
    have hm : (⟨xs⟩ : MTy).sm := hx
    have hm' : (⟨ys⟩ : MTy).sm := hy
    have hlx := hx.1
    have hly := hy.1
    obtain ⟨l, c, hU⟩ := uni_both (P := TyI.sm) xs ys hox hoy hlx hly hx.2 hy.2
    have hs : smS SubM.sm l := by
      refine ⟨by have := hU.len; omega, fun s hs => ?_⟩
      by_cases hc : c = 0
      · have g := (hU.ok hc).2.2.good
        exact ⟨by have := g.len s hs; omega, fun x hx => (g.q s hs x hx).2.2⟩
      · rw [hU.no hc] at hs; cases hs
    have hc1 : (MTy.cnt ⟨xs⟩ : Nat) = 3 * xs.length := cnts_const (fun _ => rfl) xs
    have hc2 : (MTy.cnt ⟨ys⟩ : Nat) = 3 * ys.length := cnts_const (fun _ => rfl) ys
    have hls := hs.1
    have hc4 : cnts SubM.cnt l ≤ 3298535931904 := by
      have h1 := cnts_bound (c := SubM.cnt) (B := 3145729) l fun s h => by
        have e : cnts TyI.cnt s.ty = 3 * s.ty.length := cnts_const (fun _ => rfl) _
        have := (hs.2 s h).1
        show 1 + cnts TyI.cnt s.ty ≤ _
        omega
      have : l.length * 3145729 ≤ 1048576 * 3145729 := Nat.mul_le_mul_right _ hls
      omega
    have q1 := c_markTy ⟨ys⟩ hm' (1 + (MTy.cnt ⟨xs⟩ : Nat)) (by omega) (by omega)
    have q2 := c_markSubS l hs 1 (by omega) (by omega)
    have q3 := c_heldSubS l hs 1 (by omega) (by omega)
    have q4 := c_markTy ⟨xs⟩ hm 1 (by omega) (by omega)
    have tx := c_toTy ⟨xs⟩ hm
    have ty := c_toTy ⟨ys⟩ hm'
    have ex := c_eqTy ⟨xs⟩
    have ey := c_eqTy ⟨ys⟩
    have es := c_eqSubS l
    have ui := hU.impl
    have us := hU.spec
    (have hWf := WFx.mk (And.intro @MTy.enc_eq <| And.intro @MTy.own_eq <| And.intro @MTy.mark_eq <| And.intro @marks_len <| @pure_tupL); repeat' (first | refine zS ?_ | exact zE | with_reducible apply And.intro | ((with_reducible apply q_CallG); refine CallG_mk (c_szTy ⟨xs⟩ hox _ (by omega) (by omega)) ?_; rintro _ _ ⟨z, rfl, za, zb, zc⟩) | ((with_reducible apply q_CallQ); refine CallQ_mk (c_szTy ⟨xs⟩ hox _ (by omega) (by omega)) ?_) | ((with_reducible apply q_CallG); refine CallG_mk (c_szTy ⟨ys⟩ hoy _ (by omega) (by omega)) ?_; rintro _ _ ⟨y, rfl, ya, yb, yc⟩) | ((with_reducible apply q_CallQ); refine CallQ_mk (c_szTy ⟨ys⟩ hoy _ (by omega) (by omega)) ?_) | ((with_reducible intro hb0); revert hb0; with_reducible first | exact zB0 | refine zB fun hb => ?_ | fail) | ((with_reducible apply q_Meet); exact zM) | exact zC | refine zT ?_ | fail))
    (have hWf := WFx.mk (And.intro @MTy.enc_eq <| And.intro @MTy.own_eq <| And.intro @MTy.mark_eq <| And.intro @marks_len <| @pure_tupL); repeat' (first | refine zS ?_ | exact zE | with_reducible apply And.intro | refine zK (tx) ?_ | refine zK (ty) ?_ | ((with_reducible apply q_CallE); refine CallE_mk (FCon.noout us) ?_) | refine zK (ui) ?_ | refine zK (ex) ?_ | refine zK (ey) ?_ | refine zK (es) ?_ | ((with_reducible apply q_CallG); refine CallG_mk (q4) ?_; rintro _ _ ⟨rfl, rfl⟩) | ((with_reducible apply q_CallQ); refine CallQ_mk (q4) ?_) | ((with_reducible apply q_CallG); refine CallG_mk (q1) ?_; rintro _ _ ⟨rfl, rfl⟩) | ((with_reducible apply q_CallQ); refine CallQ_mk (q1) ?_) | ((with_reducible apply q_CallG); refine CallG_mk (q2) ?_; rintro _ _ ⟨rfl, rfl⟩) | ((with_reducible apply q_CallQ); refine CallQ_mk (q2) ?_) | ((with_reducible intro hb0); revert hb0; with_reducible first | exact zB0 | refine zB fun hb => ?_ | fail) | ((with_reducible apply q_Meet); exact zM) | exact zC | refine zT ?_ | fail))
    (have hWf := WFx.mk (And.intro @MTy.enc_eq <| And.intro @MTy.own_eq <| @pure_tupL); repeat' (first | refine zS ?_ | exact zE | with_reducible apply And.intro | refine zK (q3) ?_ | ((with_reducible intro hb0); revert hb0; with_reducible first | exact zB0 | refine zB fun hb => ?_ | fail) | ((with_reducible apply q_Meet); exact zM) | exact zC | refine zT ?_ | fail))
    (have hWf := WFx.mk (And.intro @MTy.enc_eq <| And.intro @MTy.own_eq <| And.intro @marks_len <| @pure_tupL); repeat' (first | (simp only [go_sem, simprocAttr, hWf.out]; fail_if_success (with_reducible refine (?_ : False))) | ((with_reducible first | apply ACallQ_no (.s (.bool false)) | apply AC_go | apply ACallQ_go); simp only [go_sem, simprocAttr, hWf.out]; fail_if_success (with_reducible refine (?_ : False))) | with_reducible apply And.intro | refine zK (tx) ?_ | refine zK (ty) ?_ | refine zK (ui) ?_ | refine zK (es) ?_ | refine zK (q3) ?_ | ((with_reducible intro hb0); revert hb0; with_reducible first | exact zB0 | refine zB fun hb => ?_ | fail) | ((with_reducible apply q_Meet); exact zM) | exact zC | fail))
  · (have hWf := f0; repeat' (first | refine zS ?_ | exact zE | with_reducible apply And.intro | ((with_reducible apply q_CallG); refine CallG_mk (c_szTy ⟨xs⟩ hox _ (by omega) (by omega)) ?_; rintro _ _ ⟨z, rfl, za, zb, zc⟩) | ((with_reducible apply q_CallQ); refine CallQ_mk (c_szTy ⟨xs⟩ hox _ (by omega) (by omega)) ?_) | ((with_reducible apply q_CallG); refine CallG_mk (c_szTy ⟨ys⟩ hoy _ (by omega) (by omega)) ?_; rintro _ _ ⟨y, rfl, ya, yb, yc⟩) | ((with_reducible apply q_CallQ); refine CallQ_mk (c_szTy ⟨ys⟩ hoy _ (by omega) (by omega)) ?_) | ((with_reducible intro hb0); revert hb0; with_reducible first | exact zB0 | refine zB fun hb => ?_ | fail) | ((with_reducible apply q_Meet); exact zM) | exact zC | refine zT ?_ | fail))
    all_goals exact absurd ⟨zc (by omega), yc (by omega)⟩ hz
end Go.Proofs.Ytngobmjdbjlkcaa
