import Derived.Test.YtngobmjdbjlkcaaGz
import Derived.Test.YtngobmjdbjlkcaaHSub
/- Reading of laws.TyItem, laws.Ty, laws.Sub and of slices of them, for the second engine. -/
namespace Go.Proofs.Ytngobmjdbjlkcaa
set_option linter.unusedVariables false
set_option linter.unusedSimpArgs false
open Go.RowKit Go.ChangeShapes Go.WideShapes
theorem rdE_int : RdE 3 1 iE I64 := (funext iE_eq ▸ RdE.int Try.underlying3 (by kernel_rfl))
theorem rdE_string : RdE 9 1 (fun s : ByteArray => [.s (.string s)]) (fun s => s.size ≤ maxLen) := RdE.string Try.underlying9 (by kernel_rfl)
theorem rdE_TyItem : RdE 138 3 TyI.enc TyI.ok := by
  refine ⟨by kernel_rfl, fun H en W n cs x h => ?_⟩
  obtain ⟨hl, m, hf⟩ := rd_fields Try.underlying138 h
  rw [show Try.prog.cellsOf 138 = 3 from by kernel_rfl] at hl
  simp only [List.forall_mem_cons, rdE_int.1, rdE_string.1] at hf
  obtain ⟨⟨_, h0⟩, ⟨_, h1⟩, ⟨_, h2⟩, _⟩ := hf
  obtain ⟨a0, r0, o0⟩ := rdE_int.2 _ _ _ _ _ _ h0
  obtain ⟨a1, r1, o1⟩ := rdE_string.2 _ _ _ _ _ _ h1
  obtain ⟨a2, r2, o2⟩ := rdE_int.2 _ _ _ _ _ _ h2
  refine ⟨⟨a0, a1, a2⟩, ?_, o0, o1, o2⟩
  rw [iE_eq] at r0 r2
  exact (PartsL.cons (k := 1) r0 (PartsL.cons (k := 1) r1 (PartsL.cons (k := 1) r2 (PartsL.nil hl.symm) (by omega)) (by omega)) (by omega)).rep
theorem rdE_tyItems : RdE 33 1 (fun xs : List TyI => [.sl 3 (xs.map TyI.enc)]) (fun xs => ∀ x ∈ xs, x.ok) := RdE.slice Try.underlying33 (by kernel_rfl) (by decide) rdE_TyItem
theorem rdE_Ty : RdE 35 1 (fun xs : List TyI => [.sl 3 (xs.map TyI.enc)]) (fun xs => ∀ x ∈ xs, x.ok) := by
  refine ⟨by kernel_rfl, fun H en W n cs x h => ?_⟩
  obtain ⟨hl, m, hf⟩ := rd_fields Try.underlying35 h
  rw [show Try.prog.cellsOf 35 = 1 from by kernel_rfl] at hl
  simp only [List.forall_mem_cons, rdE_tyItems.1] at hf
  obtain ⟨⟨_, h0⟩, _⟩ := hf
  obtain ⟨a0, r0, o0⟩ := rdE_tyItems.2 _ _ _ _ _ _ h0
  exact ⟨a0, (PartsL.cons (k := 1) r0 (PartsL.nil hl.symm) (by omega)).rep, o0⟩
theorem rdE_Sub : RdE 87 2 SubM.enc SubM.ok := by
  refine ⟨by kernel_rfl, fun H en W n cs x h => ?_⟩
  obtain ⟨hl, m, hf⟩ := rd_fields Try.underlying87 h
  rw [show Try.prog.cellsOf 87 = 2 from by kernel_rfl] at hl
  simp only [List.forall_mem_cons, rdE_int.1, rdE_Ty.1] at hf
  obtain ⟨⟨_, h0⟩, ⟨_, h1⟩, _⟩ := hf
  obtain ⟨a0, r0, o0⟩ := rdE_int.2 _ _ _ _ _ _ h0
  obtain ⟨a1, r1, o1⟩ := rdE_Ty.2 _ _ _ _ _ _ h1
  refine ⟨⟨a0, a1⟩, ?_, o0, o1⟩
  rw [iE_eq] at r0
  exact (PartsL.cons (k := 1) r0 (PartsL.cons (k := 1) r1 (PartsL.nil hl.symm) (by omega)) (by omega)).rep
theorem rdE_Subs : RdE 36 1 (fun xs : List SubM => [.sl 2 (xs.map SubM.enc)]) (fun xs => ∀ x ∈ xs, x.ok) := RdE.slice Try.underlying36 (by kernel_rfl) (by decide) rdE_Sub
end Go.Proofs.Ytngobmjdbjlkcaa
