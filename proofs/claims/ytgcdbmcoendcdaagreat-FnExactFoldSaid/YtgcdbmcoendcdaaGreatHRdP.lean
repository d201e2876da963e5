import Derived.Test.YtgcdbmcoendcdaaGreatGwB
import Derived.Test.YtgcdbmcoendcdaaGreatHaB
import Derived.Test.YtgcdbmcoendcdaaGreatPaB
import Derived.Test.YtgcdbmcoendcdaaGreatPgB
/- Readings of laws.TyItem, laws.PNode, laws.Pat, laws.Node, laws.Con, laws.Type, laws.Program, for the second engine. Printed by rdg.py. -/
namespace Go.Proofs.YtgcdbmcoendcdaaGreat
set_option linter.unusedVariables false
set_option linter.unusedSimpArgs false
open Go.RowKit Go.ChangeShapes Go.WideShapes
theorem rdE_int : RdE 3 1 iE I64 := (funext iE_eq ▸ RdE.int Tryz.underlying3 (by kernel_rfl))
theorem rdE_ints : RdE 53 1 (fun l : List Int => [intsD l]) (fun l => ∀ x ∈ l, I64 x) := RdE.slice Tryz.underlying53 (by kernel_rfl) (by decide) rdE_int
theorem rdE_string : RdE 9 1 (fun s : ByteArray => [.s (.string s)]) (fun s => s.size ≤ maxLen) := RdE.string Tryz.underlying9 (by kernel_rfl)
theorem rdE_bool : RdE 4 1 (fun b : Bool => [.s (.bool b)]) (fun _ => True) := RdE.bool Tryz.underlying4 (by kernel_rfl)
theorem rdE_TyItem : RdE 293 3 TyI.enc TyI.ok := by
  refine ⟨by kernel_rfl, fun H en W n cs x h => ?_⟩
  obtain ⟨hl, m, hf⟩ := rd_fields Tryz.underlying293 h
  rw [show Tryz.prog.cellsOf 293 = 3 from by kernel_rfl] at hl
  simp only [List.forall_mem_cons, rdE_int.1, rdE_string.1] at hf
  obtain ⟨⟨_, h0⟩, ⟨_, h1⟩, ⟨_, h2⟩, _⟩ := hf
  obtain ⟨a0, r0, o0⟩ := rdE_int.2 _ _ _ _ _ _ h0
  obtain ⟨a1, r1, o1⟩ := rdE_string.2 _ _ _ _ _ _ h1
  obtain ⟨a2, r2, o2⟩ := rdE_int.2 _ _ _ _ _ _ h2
  refine ⟨⟨a0, a1, a2⟩, ?_, o0, o1, o2⟩
  rw [iE_eq] at r0 r2
  exact (PartsL.cons (k := 1) r0 (PartsL.cons (k := 1) r1 (PartsL.cons (k := 1) r2 (PartsL.nil hl.symm) (by omega)) (by omega)) (by omega)).rep
theorem rdE_TyItems : RdE 251 1 (fun xs : List TyI => [.sl 3 (xs.map TyI.enc)]) (fun xs => ∀ x ∈ xs, x.ok) := RdE.slice Tryz.underlying251 (by kernel_rfl) (by decide) rdE_TyItem
theorem rdE_Ty : RdE 253 1 (fun xs : List TyI => [.sl 3 (xs.map TyI.enc)]) (fun xs => ∀ x ∈ xs, x.ok) := by
  refine ⟨by kernel_rfl, fun H en W n cs x h => ?_⟩
  obtain ⟨hl, m, hf⟩ := rd_fields Tryz.underlying253 h
  rw [show Tryz.prog.cellsOf 253 = 1 from by kernel_rfl] at hl
  simp only [List.forall_mem_cons, rdE_TyItems.1] at hf
  obtain ⟨⟨_, h0⟩, _⟩ := hf
  obtain ⟨a0, r0, o0⟩ := rdE_TyItems.2 _ _ _ _ _ _ h0
  exact ⟨a0, (PartsL.cons (k := 1) r0 (PartsL.nil hl.symm) (by omega)).rep, o0⟩
theorem rdE_PNode : RdE 289 4 DPNode.enc DPNode.ok := by
  refine ⟨by kernel_rfl, fun H en W n cs x h => ?_⟩
  obtain ⟨hl, m, hf⟩ := rd_fields Tryz.underlying289 h
  rw [show Tryz.prog.cellsOf 289 = 4 from by kernel_rfl] at hl
  simp only [List.forall_mem_cons, rdE_int.1, rdE_string.1, rdE_ints.1] at hf
  obtain ⟨⟨_, h0⟩, ⟨_, h1⟩, ⟨_, h2⟩, ⟨_, h3⟩, _⟩ := hf
  obtain ⟨a0, r0, o0⟩ := rdE_int.2 _ _ _ _ _ _ h0
  obtain ⟨a1, r1, o1⟩ := rdE_int.2 _ _ _ _ _ _ h1
  obtain ⟨a2, r2, o2⟩ := rdE_string.2 _ _ _ _ _ _ h2
  obtain ⟨a3, r3, o3⟩ := rdE_ints.2 _ _ _ _ _ _ h3
  refine ⟨⟨a0, a1, a2, a3⟩, ?_, o0, o1, o2, o3⟩
  rw [iE_eq] at r0 r1
  exact (PartsL.cons (k := 1) r0 (PartsL.cons (k := 1) r1 (PartsL.cons (k := 1) r2 (PartsL.cons (k := 1) r3 (PartsL.nil hl.symm) (by omega)) (by omega)) (by omega)) (by omega)).rep
theorem rdE_PNodes : RdE 257 1 (fun xs : List DPNode => [.sl 4 (xs.map DPNode.enc)]) (fun xs => ∀ x ∈ xs, x.ok) := RdE.slice Tryz.underlying257 (by kernel_rfl) (by decide) rdE_PNode
theorem rdE_Pat : RdE 259 1 MPat.enc MPat.ok := by
  refine ⟨by kernel_rfl, fun H en W n cs x h => ?_⟩
  obtain ⟨hl, m, hf⟩ := rd_fields Tryz.underlying259 h
  rw [show Tryz.prog.cellsOf 259 = 1 from by kernel_rfl] at hl
  simp only [List.forall_mem_cons, rdE_PNodes.1] at hf
  obtain ⟨⟨_, h0⟩, _⟩ := hf
  obtain ⟨a0, r0, o0⟩ := rdE_PNodes.2 _ _ _ _ _ _ h0
  refine ⟨⟨a0⟩, ?_, o0⟩
  exact (PartsL.cons (k := 1) r0 (PartsL.nil hl.symm) (by omega)).rep
theorem rdE_Pats : RdE 120 1 (fun xs : List MPat => [.sl 1 (xs.map MPat.enc)]) (fun xs => ∀ x ∈ xs, x.ok) := RdE.slice Tryz.underlying120 (by kernel_rfl) (by decide) rdE_Pat
theorem rdE_Node : RdE 122 6 MNode.enc MNode.ok := by
  refine ⟨by kernel_rfl, fun H en W n cs x h => ?_⟩
  obtain ⟨hl, m, hf⟩ := rd_fields Tryz.underlying122 h
  rw [show Tryz.prog.cellsOf 122 = 6 from by kernel_rfl] at hl
  simp only [List.forall_mem_cons, rdE_int.1, rdE_string.1, rdE_ints.1, rdE_Pats.1] at hf
  obtain ⟨⟨_, h0⟩, ⟨_, h1⟩, ⟨_, h2⟩, ⟨_, h3⟩, ⟨_, h4⟩, ⟨_, h5⟩, _⟩ := hf
  obtain ⟨a0, r0, o0⟩ := rdE_int.2 _ _ _ _ _ _ h0
  obtain ⟨a1, r1, o1⟩ := rdE_int.2 _ _ _ _ _ _ h1
  obtain ⟨a2, r2, o2⟩ := rdE_int.2 _ _ _ _ _ _ h2
  obtain ⟨a3, r3, o3⟩ := rdE_string.2 _ _ _ _ _ _ h3
  obtain ⟨a4, r4, o4⟩ := rdE_ints.2 _ _ _ _ _ _ h4
  obtain ⟨a5, r5, o5⟩ := rdE_Pats.2 _ _ _ _ _ _ h5
  refine ⟨⟨a0, a1, a2, a3, a4, a5⟩, ?_, o0, o1, o2, o3, o4, o5⟩
  rw [iE_eq] at r0 r1 r2
  exact (PartsL.cons (k := 1) r0 (PartsL.cons (k := 1) r1 (PartsL.cons (k := 1) r2 (PartsL.cons (k := 1) r3 (PartsL.cons (k := 1) r4 (PartsL.cons (k := 1) r5 (PartsL.nil hl.symm) (by omega)) (by omega)) (by omega)) (by omega)) (by omega)) (by omega)).rep
theorem rdE_Nodes : RdE 23 1 (fun xs : List MNode => [.sl 6 (xs.map MNode.enc)]) (fun xs => ∀ x ∈ xs, x.ok) := RdE.slice Tryz.underlying23 (by kernel_rfl) (by decide) rdE_Node
theorem rdE_Con : RdE 255 3 MCon.enc MCon.ok := by
  refine ⟨by kernel_rfl, fun H en W n cs x h => ?_⟩
  obtain ⟨hl, m, hf⟩ := rd_fields Tryz.underlying255 h
  rw [show Tryz.prog.cellsOf 255 = 3 from by kernel_rfl] at hl
  simp only [List.forall_mem_cons, rdE_string.1, rdE_bool.1, rdE_Ty.1] at hf
  obtain ⟨⟨_, h0⟩, ⟨_, h1⟩, ⟨_, h2⟩, _⟩ := hf
  obtain ⟨a0, r0, o0⟩ := rdE_string.2 _ _ _ _ _ _ h0
  obtain ⟨a1, r1, o1⟩ := rdE_bool.2 _ _ _ _ _ _ h1
  obtain ⟨a2, r2, o2⟩ := rdE_Ty.2 _ _ _ _ _ _ h2
  refine ⟨⟨a0, a1, a2⟩, ?_, o0, o1, o2⟩
  exact (PartsL.cons (k := 1) r0 (PartsL.cons (k := 1) r1 (PartsL.cons (k := 1) r2 (PartsL.nil hl.symm) (by omega)) (by omega)) (by omega)).rep
theorem rdE_Cons : RdE 116 1 (fun xs : List MCon => [.sl 3 (xs.map MCon.enc)]) (fun xs => ∀ x ∈ xs, x.ok) := RdE.slice Tryz.underlying116 (by kernel_rfl) (by decide) rdE_Con
theorem rdE_Type : RdE 118 3 MType.enc MType.ok := by
  refine ⟨by kernel_rfl, fun H en W n cs x h => ?_⟩
  obtain ⟨hl, m, hf⟩ := rd_fields Tryz.underlying118 h
  rw [show Tryz.prog.cellsOf 118 = 3 from by kernel_rfl] at hl
  simp only [List.forall_mem_cons, rdE_string.1, rdE_int.1, rdE_Cons.1] at hf
  obtain ⟨⟨_, h0⟩, ⟨_, h1⟩, ⟨_, h2⟩, _⟩ := hf
  obtain ⟨a0, r0, o0⟩ := rdE_string.2 _ _ _ _ _ _ h0
  obtain ⟨a1, r1, o1⟩ := rdE_int.2 _ _ _ _ _ _ h1
  obtain ⟨a2, r2, o2⟩ := rdE_Cons.2 _ _ _ _ _ _ h2
  refine ⟨⟨a0, a1, a2⟩, ?_, o0, o1, o2⟩
  rw [iE_eq] at r1
  exact (PartsL.cons (k := 1) r0 (PartsL.cons (k := 1) r1 (PartsL.cons (k := 1) r2 (PartsL.nil hl.symm) (by omega)) (by omega)) (by omega)).rep
theorem rdE_Types : RdE 22 1 (fun xs : List MType => [.sl 3 (xs.map MType.enc)]) (fun xs => ∀ x ∈ xs, x.ok) := RdE.slice Tryz.underlying22 (by kernel_rfl) (by decide) rdE_Type
theorem rdE_Program : RdE 25 2 MProgram.enc MProgram.ok := by
  refine ⟨by kernel_rfl, fun H en W n cs x h => ?_⟩
  obtain ⟨hl, m, hf⟩ := rd_fields Tryz.underlying25 h
  rw [show Tryz.prog.cellsOf 25 = 2 from by kernel_rfl] at hl
  simp only [List.forall_mem_cons, rdE_Types.1, rdE_Nodes.1] at hf
  obtain ⟨⟨_, h0⟩, ⟨_, h1⟩, _⟩ := hf
  obtain ⟨a0, r0, o0⟩ := rdE_Types.2 _ _ _ _ _ _ h0
  obtain ⟨a1, r1, o1⟩ := rdE_Nodes.2 _ _ _ _ _ _ h1
  refine ⟨⟨a0, a1⟩, ?_, o0, o1⟩
  exact (PartsL.cons (k := 1) r0 (PartsL.cons (k := 1) r1 (PartsL.nil hl.symm) (by omega)) (by omega)).rep
end Go.Proofs.YtgcdbmcoendcdaaGreat
