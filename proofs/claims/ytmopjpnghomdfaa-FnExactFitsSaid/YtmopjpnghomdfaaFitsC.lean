import Derived.Test.YtmopjpnghomdfaaFitsB
import Derived.Test.YtmopjpnghomdfaaTyInj
import Derived.Test.YtmopjpnghomdfaaTySpec
/- l04End over the engine, out of the elder contract. -/
namespace Go.Proofs.Ytmopjpnghomdfaa
set_option linter.unusedVariables false
set_option linter.unusedSimpArgs false
open Go.RowKit
theorem two_args {P : A → Value → Prop} {b c : A} {vs : List Value} (hl : vs.length = [b, c].length) (h : ∀ (j : Nat) (x : A) (u : Value), [b, c][j]? = some x → vs[j]? = some u → P x u) : ∃ v u, vs = [v, u] ∧ P b v ∧ P c u := by
  match vs, hl with
  | [v, u], _ => exact ⟨v, u, rfl, h 0 b v rfl rfl, h 1 c u rfl rfl⟩
theorem c_l04End (xs : List TyI) (ho : ∀ x ∈ xs, x.ok) (hi : ∀ x ∈ xs, itemM x = true) (hl : xs.length ≤ 1000000) (k : Nat) (hk : k ≤ xs.length) : FCon Try.prog 74 [.ag [tyD xs], .d (.s (.int .i64 k))] (· = Tint (endM xs k)) := by
  refine FCon.ofBelow Try.func74 (by kernel_rfl) rfl (Rv := (· = .int .i64 (endM xs k))) (fun v hv => by subst hv; exact ⟨rfl, rfl⟩) fun w S vs h1 h2 => ?_
  obtain ⟨v, u, rfl, hv, hu⟩ := two_args (P := fun b u => RA S w b u) h1 h2
  obtain ⟨v', rfl, hv'⟩ := ag_one hv
  have : u = .int .i64 k := Rep.s_inv hu
  subst this
  exact (spec_l04End xs.length w _ (Sub.self w) v' xs (tyS_of hv' ho) (fun x hx => itemM_ar (hi x hx)) (by omega) k (by omega) hk).mono fun e w' ⟨q1, q2⟩ => ⟨_, q1, rfl, q2⟩
abbrev Tstr (s : ByteArray) : T := .e (.d (.s (.string s)))
theorem c_spec_PrintTy (xs : List TyI) (ho : ∀ x ∈ xs, x.ok) (hl : xs.length ≤ 1000000000) : FCon Try.prog 83 [.ag [tyD xs]] (· = Tstr (bs (printTyM xs))) := by
  refine FCon.ofBelow Try.func83 (by kernel_rfl) rfl (Rv := (· = .string (bs (printTyM xs)))) (fun v hv => by subst hv; exact ⟨rfl, rfl⟩) fun w S vs h1 h2 => ?_
  obtain ⟨v, rfl, hv⟩ := one_arg (P := fun _ b u => RA S w b u) h1 h2
  obtain ⟨u, rfl, hu⟩ := ag_one hv
  exact (spec_PrintTy w _ (Sub.self w) u xs (tyS_of hu ho) hl).mono fun e w' ⟨q1, q2⟩ => ⟨_, q1, rfl, q2⟩
/-- the reference's test: the texts. -/
theorem texts_eq {xs ys : List TyI} (hx : tyOkM xs = true) (hy : tyOkM ys = true) : ((bs (printTyM xs)).toList == (bs (printTyM ys)).toList) = true ↔ xs = ys := by
  have e : ∀ l : List UInt8, (bs l).toList = l := fun l => by rw [ByteArray.toList_eq]; simp [bs]
  rw [e, e]
  exact ⟨fun h => printTyM_inj hx hy (by simpa using h), fun h => by subst h; simp⟩
/-- a part of a right type is right. -/
theorem tyOkM_seg {xs : List TyI} (h : tyOkM xs = true) {k e : Nat} (hk : endM xs k = e) : tyOkM (seg xs k e) = true := by
  have hb := endM_bd xs k e hk
  unfold tyOkM tyItemsM at h ⊢
  simp only [Bool.and_eq_true, decide_eq_true_eq, List.all_eq_true] at h ⊢
  have hlen : (seg xs k e).length = e - k := by unfold seg; simp; omega
  refine ⟨by omega, fun x hx => h.2.1 x (List.mem_of_mem_drop (List.mem_of_mem_take hx)), ?_⟩
  rw [hlen]
  unfold endM at hk ⊢
  have hs : arsM (seg xs k e) = ((arsM xs).drop k).take (e - k) := by unfold arsM seg; simp
  rw [hs, List.drop_zero]
  have key : ∀ (l : List Nat) (m j : Nat), scan l m = some j → scan (l.take j) m = some j := by
    intro l
    induction l with
    | nil => intro m j q; cases m with
      | zero => rw [scan_zero] at q ⊢; exact q
      | succ m => cases q
    | cons a l ih =>
      intro m j q
      cases m with
      | zero => rw [scan_zero] at q ⊢; exact q
      | succ m =>
        rw [scan] at q
        obtain ⟨i, hi, rfl⟩ := Option.map_eq_some_iff.1 q
        rw [List.take_succ_cons, scan, ih _ _ hi]; rfl
  cases hsc : scan ((arsM xs).drop k) 1 with
  | none =>
    rw [hsc] at hk
    have h2 : (-1 : Int) = (e : Int) := hk
    omega
  | some j =>
    rw [hsc] at hk
    have hj : j = e - k := by
      have h2 : ((k + j : Nat) : Int) = (e : Int) := hk
      omega
    subst hj
    rw [key _ _ _ hsc]
    simp
end Go.Proofs.Ytmopjpnghomdfaa
