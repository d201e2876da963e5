import Derived.Test.YthmedgipfdoneaaAbR
import Derived.Test.YthmedgipfdoneaaTyB
/- Types and substitutions as plain data; the elder contracts of TyOk over them. -/
namespace Go.Proofs.Ythmedgipfdoneaa
set_option linter.unusedVariables false
set_option linter.unusedSimpArgs false
open Go.RowKit Go.ChangeShapes Go.WideShapes
def TyI.enc (x : TyI) : List D := [.s (.int .i64 x.v), .s (.string x.name), .s (.int .i64 x.ar)]
theorem TyI.enc_eq (x : TyI) : x.enc = [.s (.int .i64 x.v), .s (.string x.name), .s (.int .i64 x.ar)] := rfl
abbrev tyD (xs : List TyI) : D := .sl 3 (xs.map TyI.enc)
structure SubM where
  v : Int
  ty : List TyI
def SubM.enc (s : SubM) : List D := [.s (.int .i64 s.v), tyD s.ty]
theorem SubM.enc_eq (s : SubM) : s.enc = [.s (.int .i64 s.v), tyD s.ty] := rfl
abbrev subsD (l : List SubM) : D := .sl 2 (l.map SubM.enc)
def SubM.ok (s : SubM) : Prop := I64 s.v ∧ ∀ x ∈ s.ty, x.ok
theorem ty_row {S : Seal} {W : World} {x : TyI} {r : List Value} (h : RepL S W x.enc r) : r = x.cells := by
  rw [TyI.enc_eq] at h
  obtain ⟨u0, t0, rfl, h0, h⟩ := h.inv
  obtain ⟨u1, t1, rfl, h1, h⟩ := h.inv
  obtain ⟨u2, t2, rfl, h2, h⟩ := h.inv
  have : t2 = [] := List.eq_nil_of_length_eq_zero (by have := h.1; simpa using this)
  subst this
  rw [Rep.s_inv h0, Rep.s_inv h1, Rep.s_inv h2]; rfl
theorem row_ty {S : Seal} {W : World} (x : TyI) : RepL S W x.enc x.cells := by
  rw [TyI.enc_eq]
  exact RepL.cons (.i _ _) (RepL.cons (.str _) (RepL.cons (.i _ _) (RepL.nil _ _)))
theorem tyS_of {S : Seal} {W : World} {v : Value} {xs : List TyI} (h : Rep S W (tyD xs) v) (ho : ∀ x ∈ xs, x.ok) : TyS (hp W) v xs :=
  Rep.slOf (enc := TyI.enc) (fun _ _ => rfl) (by decide) (fun r x hx hr => ⟨ty_row hr, ho x hx⟩) h
theorem tyD_of {W : World} {v : Value} {xs : List TyI} (h : TyS (hp W) v xs) : Rep (sealW W) W (tyD xs) v ∧ ∀ x ∈ xs, x.ok :=
  SlOf.rep (enc := TyI.enc) (ok := TyI.ok) (fun r x hr => by rw [hr.1]; exact ⟨row_ty x, hr.2⟩) h
theorem c_impl_TyOk (xs : List TyI) (ho : ∀ x ∈ xs, x.ok) (hl : xs.length ≤ 1000000000) : FCon Try.prog 117 [.ag [tyD xs]] (· = Tbool (tyOkM xs)) := by
  refine FCon.ofBelow Try.func117 (by kernel_rfl) rfl (Rv := (· = .bool (tyOkM xs))) (fun v hv => by subst hv; exact ⟨rfl, rfl⟩) fun w S vs h1 h2 => ?_
  obtain ⟨v, rfl, hv⟩ := one_arg (P := fun _ b u => RA S w b u) h1 h2
  obtain ⟨u, rfl, hu⟩ := ag_one hv
  exact (impl_TyOk w _ (Sub.self w) u xs (tyS_of hu ho) hl).mono fun e w' ⟨q1, q2⟩ => ⟨_, q1, rfl, q2⟩
theorem c_spec_TyOk (xs : List TyI) (ho : ∀ x ∈ xs, x.ok) (hl : xs.length ≤ 1000000000) : FCon Try.prog 75 [.ag [tyD xs]] (· = Tbool (tyOkM xs)) := by
  refine FCon.ofBelow Try.func75 (by kernel_rfl) rfl (Rv := (· = .bool (tyOkM xs))) (fun v hv => by subst hv; exact ⟨rfl, rfl⟩) fun w S vs h1 h2 => ?_
  obtain ⟨v, rfl, hv⟩ := one_arg (P := fun _ b u => RA S w b u) h1 h2
  obtain ⟨u, rfl, hu⟩ := ag_one hv
  exact (spec_TyOk w _ (Sub.self w) u xs (tyS_of hu ho) hl).mono fun e w' ⟨q1, q2⟩ => ⟨_, q1, rfl, q2⟩
end Go.Proofs.Ythmedgipfdoneaa
