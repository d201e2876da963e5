import Derived.Test.YthmedgipfdoneaaAbS
import Derived.Test.YthmedgipfdoneaaEPNode
import Derived.Test.YthmedgipfdoneaaETy
/- Readings of numbers, strings, types and nodes of patterns; back to the elder readings. -/
namespace Go.Proofs.Ythmedgipfdoneaa
set_option linter.unusedVariables false
set_option linter.unusedSimpArgs false
open Go.RowKit Go.ChangeShapes Go.WideShapes
abbrev patD (xs : List DPNode) : D := .sl 4 (xs.map DPNode.enc)
theorem rdE_int : RdE 3 1 iE I64 := (funext iE_eq ▸ RdE.int Try.underlying3 (by kernel_rfl))
theorem rdE_ints : RdE 61 1 (fun l : List Int => [intsD l]) (fun l => ∀ x ∈ l, I64 x) := RdE.slice Try.underlying61 (by kernel_rfl) (by decide) rdE_int
theorem rdE_string : RdE 9 1 (fun s : ByteArray => [.s (.string s)]) (fun s => s.size ≤ maxLen) := RdE.string Try.underlying9 (by kernel_rfl)
theorem rdE_bool : RdE 4 1 (fun b : Bool => [.s (.bool b)]) (fun _ => True) := RdE.bool Try.underlying4 (by kernel_rfl)
theorem rdE_PNode : RdE 158 4 DPNode.enc DPNode.ok := by
  refine ⟨by kernel_rfl, fun H en W n cs x h => ?_⟩
  obtain ⟨hl, m, hf⟩ := rd_fields Try.underlying158 h
  rw [show Try.prog.cellsOf 158 = 4 from by kernel_rfl] at hl
  simp only [List.forall_mem_cons, rdE_int.1, rdE_string.1, rdE_ints.1] at hf
  obtain ⟨⟨_, h0⟩, ⟨_, h1⟩, ⟨_, h2⟩, ⟨_, h3⟩, _⟩ := hf
  obtain ⟨a0, r0, o0⟩ := rdE_int.2 _ _ _ _ _ _ h0
  obtain ⟨a1, r1, o1⟩ := rdE_int.2 _ _ _ _ _ _ h1
  obtain ⟨a2, r2, o2⟩ := rdE_string.2 _ _ _ _ _ _ h2
  obtain ⟨a3, r3, o3⟩ := rdE_ints.2 _ _ _ _ _ _ h3
  refine ⟨⟨a0, a1, a2, a3⟩, ?_, o0, o1, o2, o3⟩
  rw [iE_eq] at r0 r1
  exact (PartsL.cons (k := 1) r0 (PartsL.cons (k := 1) r1 (PartsL.cons (k := 1) r2 (PartsL.cons (k := 1) r3 (PartsL.nil hl.symm) (by omega)) (by omega)) (by omega)) (by omega)).rep
theorem rdE_PNodes : RdE 94 1 (fun xs : List DPNode => [patD xs]) (fun xs => ∀ x ∈ xs, x.ok) := RdE.slice Try.underlying94 (by kernel_rfl) (by decide) rdE_PNode
theorem rdE_TyItem : RdE 177 3 TyI.enc TyI.ok := by
  refine ⟨cells_TyItem, fun H en W n cs x h => ?_⟩
  obtain ⟨t, ht⟩ := rd_TyItem h
  exact ⟨t, by rw [ht.1]; exact row_ty t, ht.2⟩
theorem rdE_tyItems : RdE 162 1 (fun xs : List TyI => [tyD xs]) (fun xs => ∀ x ∈ xs, x.ok) := RdE.slice Try.underlying162 cells_tys (by decide) rdE_TyItem
theorem rdE_Ty : RdE 164 1 (fun xs : List TyI => [tyD xs]) (fun xs => ∀ x ∈ xs, x.ok) := by
  refine ⟨cells_Ty, fun H en W n cs x h => ?_⟩
  obtain ⟨v, xs, rfl, hx⟩ := rd_Ty h
  exact ⟨xs, repL_one (tyD_of hx).1, (tyD_of hx).2⟩
theorem intS_of {S : Seal} {W : World} {v : Value} {l : List Int} (h : Rep S W (intsD l) v) (ho : ∀ x ∈ l, I64 x) : IntS (hp W) v l := by
  refine Rep.slOf (enc := iE) (fun _ _ => rfl) (by decide) (fun r x hx hr => ?_) h
  rw [iE_eq] at hr
  obtain ⟨u0, t0, rfl, h0, hr⟩ := hr.inv
  have : t0 = [] := List.eq_nil_of_length_eq_zero (by have := hr.1; simpa using this)
  subst this
  rw [Rep.s_inv h0]
  exact ⟨rfl, ho x hx⟩
theorem pnodeS_of {S : Seal} {W : World} {v : Value} {xs : List DPNode} (h : Rep S W (patD xs) v) (ho : ∀ x ∈ xs, x.ok) : DPNodeS (hp W) v xs := by
  refine Rep.slOf (enc := DPNode.enc) (fun _ _ => rfl) (by decide) (fun r x hx hr => ?_) h
  obtain ⟨o1, o2, o3, o4⟩ := ho x hx
  rw [DPNode.enc_eq] at hr
  obtain ⟨u0, t0, rfl, h0, hr⟩ := hr.inv
  obtain ⟨u1, t1, rfl, h1, hr⟩ := hr.inv
  obtain ⟨u2, t2, rfl, h2, hr⟩ := hr.inv
  obtain ⟨u3, t3, rfl, h3, hr⟩ := hr.inv
  have : t3 = [] := List.eq_nil_of_length_eq_zero (by have := hr.1; simpa using this)
  subst this
  rw [Rep.s_inv h0, Rep.s_inv h1, Rep.s_inv h2]
  exact ⟨u3, rfl, ⟨o1, o2, o3⟩, intS_of h3 o4⟩
end Go.Proofs.Ythmedgipfdoneaa
