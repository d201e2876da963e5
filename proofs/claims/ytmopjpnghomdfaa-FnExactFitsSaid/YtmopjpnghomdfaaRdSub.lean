import Derived.Test.YtmopjpnghomdfaaAbS
import Derived.Test.YtmopjpnghomdfaaVarE
/- Reading of laws.TyItem, laws.Ty, laws.Sub and of slices of them. -/
namespace Go.Proofs.Ytmopjpnghomdfaa
set_option linter.unusedVariables false
set_option linter.unusedSimpArgs false
open Go.RowKit Go.ChangeShapes Go.WideShapes
theorem rdE_int : RdE 3 1 iE I64 := (funext iE_eq ▸ RdE.int Try.underlying3 cells_tint)
theorem rdE_string : RdE 9 1 (fun s : ByteArray => [.s (.string s)]) (fun s => s.size ≤ maxLen) := RdE.string Try.underlying9 cells_tstring
theorem rdE_TyItem : RdE 106 3 TyI.enc TyI.ok := by
  refine ⟨cells_TyItem, fun H en W n cs x h => ?_⟩
  obtain ⟨t, ht⟩ := rd_TyItem h
  exact ⟨t, by rw [ht.1]; exact row_ty t, ht.2⟩
theorem rdE_tyItems : RdE 29 1 (fun xs : List TyI => [tyD xs]) (fun xs => ∀ x ∈ xs, x.ok) := RdE.slice Try.underlying29 cells_tys (by decide) rdE_TyItem
theorem rdE_Ty : RdE 31 1 (fun xs : List TyI => [tyD xs]) (fun xs => ∀ x ∈ xs, x.ok) := by
  refine ⟨cells_Ty, fun H en W n cs x h => ?_⟩
  obtain ⟨v, xs, rfl, hx⟩ := rd_Ty h
  exact ⟨xs, repL_one (tyD_of hx).1, (tyD_of hx).2⟩
theorem rdE_Sub : RdE 63 2 SubM.enc SubM.ok := by
  refine ⟨by kernel_rfl, fun H en W n cs x h => ?_⟩
  obtain ⟨hl, m, hf⟩ := rd_fields Try.underlying63 h
  rw [show Try.prog.cellsOf 63 = 2 from by kernel_rfl] at hl
  simp only [List.forall_mem_cons, rdE_int.1, rdE_Ty.1] at hf
  obtain ⟨⟨_, h0⟩, ⟨_, h1⟩, _⟩ := hf
  obtain ⟨a0, r0, o0⟩ := rdE_int.2 _ _ _ _ _ _ h0
  obtain ⟨a1, r1, o1⟩ := rdE_Ty.2 _ _ _ _ _ _ h1
  refine ⟨⟨a0, a1⟩, ?_, o0, o1⟩
  rw [iE_eq] at r0
  exact (PartsL.cons (k := 1) r0 (PartsL.cons (k := 1) r1 (PartsL.nil hl.symm) (by omega)) (by omega)).rep
theorem rdE_Subs : RdE 22 1 (fun xs : List SubM => [subsD xs]) (fun xs => ∀ x ∈ xs, x.ok) := RdE.slice Try.underlying22 (by kernel_rfl) (by decide) rdE_Sub
end Go.Proofs.Ytmopjpnghomdfaa
