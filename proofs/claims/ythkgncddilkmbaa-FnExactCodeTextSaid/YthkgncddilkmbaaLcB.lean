import Derived.Test.YthkgncddilkmbaaHCodeTi
import Derived.Test.YthkgncddilkmbaaGz
import Derived.Test.YthkgncddilkmbaaHCode
/- The law FnExactCodeText over the second engine. -/
namespace Go.Proofs.Ythkgncddilkmbaa
set_option linter.unusedVariables false
set_option linter.unusedSimpArgs false
open Go.RowKit Go.ChangeShapes Go.WideShapes
set_option maxRecDepth 100000 in
set_option maxHeartbeats 2000000 in
theorem c_FnExactCodeText (c : MCode) (ho : c.ok) : FCon Try.prog 3 [.ag c.enc] (fun r _ => r = .s (.bool true)) := by
  by_cases hz : c.sm
  · refine FCon.intro PM _ Try.func3 (by kernel_rfl) rfl _ Try.ntmps3 rfl [(10, 3, [], [], (lin [] [0, 1, 2]))] (by decide +kernel) (by simp) (by simp) rfl (by first | rfl | simp only [go_sem]) ?_
    (have hWf := WFx.mk (And.intro @MCode.enc_eq <| @MCode.own_eq); repeat' (first | refine zS ?_ | exact zE | with_reducible apply And.intro | ((with_reducible apply q_CallG); refine CallG_mk (c_szCode c ho 1048576 (by omega) (by omega)) ?_; rintro _ _ ⟨z, rfl, za, zb, zc⟩) | ((with_reducible apply q_CallQ); refine CallQ_mk (c_szCode c ho 1048576 (by omega) (by omega)) ?_) | refine zK (c_toCode c hz) ?_ | refine zK (c_specCodeText c ho hz) ?_ | refine zK (c_implCodeText c ho hz) ?_ | refine zK (c_eqCode c) ?_ | ((with_reducible intro hb0); revert hb0; with_reducible first | exact zB0 | refine zB fun hb => ?_ | fail) | ((with_reducible apply q_Meet); exact zM) | exact zC | refine zT ?_ | fail))
  · refine FCon.intro PM _ Try.func3 (by kernel_rfl) rfl _ Try.ntmps3 rfl [(10, 3, [], [], (lin [] [0, 1, 2]))] (by decide +kernel) (by simp) (by simp) rfl (by first | rfl | simp only [go_sem]) ?_
    (have hWf := WFx.mk @MCode.enc_eq; repeat' (first | refine zS ?_ | exact zE | with_reducible apply And.intro | ((with_reducible apply q_CallG); refine CallG_mk (c_szCode c ho 1048576 (by omega) (by omega)) ?_; rintro _ _ ⟨z, rfl, za, zb, zc⟩) | ((with_reducible apply q_CallQ); refine CallQ_mk (c_szCode c ho 1048576 (by omega) (by omega)) ?_) | ((with_reducible intro hb0); revert hb0; with_reducible first | exact zB0 | refine zB fun hb => ?_ | fail) | ((with_reducible apply q_Meet); exact zM) | exact zC | refine zT ?_ | fail))
    all_goals exact absurd (zc (by omega)) hz
end Go.Proofs.Ythkgncddilkmbaa

/- Reading of laws.Ins, laws.PNode, laws.Pat, laws.Code, for the second engine. -/
namespace Go.Proofs.Ythkgncddilkmbaa
set_option linter.unusedVariables false
set_option linter.unusedSimpArgs false
open Go.RowKit Go.ChangeShapes Go.WideShapes
theorem rdE_int : RdE 3 1 iE I64 := (funext iE_eq ▸ RdE.int Try.underlying3 (by kernel_rfl))
theorem rdE_ints : RdE 47 1 (fun l : List Int => [intsD l]) (fun l => ∀ x ∈ l, I64 x) := RdE.slice Try.underlying47 (by kernel_rfl) (by decide) rdE_int
theorem rdE_string : RdE 9 1 (fun s : ByteArray => [.s (.string s)]) (fun s => s.size ≤ maxLen) := RdE.string Try.underlying9 (by kernel_rfl)
theorem rdE_PNode : RdE 95 4 DPNode.enc DPNode.ok := by
  refine ⟨by kernel_rfl, fun H en W n cs x h => ?_⟩
  obtain ⟨hl, m, hf⟩ := rd_fields Try.underlying95 h
  rw [show Try.prog.cellsOf 95 = 4 from by kernel_rfl] at hl
  simp only [List.forall_mem_cons, rdE_int.1, rdE_string.1, rdE_ints.1] at hf
  obtain ⟨⟨_, h0⟩, ⟨_, h1⟩, ⟨_, h2⟩, ⟨_, h3⟩, _⟩ := hf
  obtain ⟨a0, r0, o0⟩ := rdE_int.2 _ _ _ _ _ _ h0
  obtain ⟨a1, r1, o1⟩ := rdE_int.2 _ _ _ _ _ _ h1
  obtain ⟨a2, r2, o2⟩ := rdE_string.2 _ _ _ _ _ _ h2
  obtain ⟨a3, r3, o3⟩ := rdE_ints.2 _ _ _ _ _ _ h3
  refine ⟨⟨a0, a1, a2, a3⟩, ?_, o0, o1, o2, o3⟩
  rw [iE_eq] at r0 r1
  exact (PartsL.cons (k := 1) r0 (PartsL.cons (k := 1) r1 (PartsL.cons (k := 1) r2 (PartsL.cons (k := 1) r3 (PartsL.nil hl.symm) (by omega)) (by omega)) (by omega)) (by omega)).rep
theorem rdE_PNodes : RdE 53 1 (fun xs : List DPNode => [.sl 4 (xs.map DPNode.enc)]) (fun xs => ∀ x ∈ xs, x.ok) := RdE.slice Try.underlying53 (by kernel_rfl) (by decide) rdE_PNode
theorem rdE_Pat : RdE 55 1 MPat.enc MPat.ok := by
  refine ⟨by kernel_rfl, fun H en W n cs x h => ?_⟩
  obtain ⟨hl, m, hf⟩ := rd_fields Try.underlying55 h
  rw [show Try.prog.cellsOf 55 = 1 from by kernel_rfl] at hl
  simp only [List.forall_mem_cons, rdE_PNodes.1] at hf
  obtain ⟨⟨_, h0⟩, _⟩ := hf
  obtain ⟨a0, r0, o0⟩ := rdE_PNodes.2 _ _ _ _ _ _ h0
  refine ⟨⟨a0⟩, ?_, o0⟩
  exact (PartsL.cons (k := 1) r0 (PartsL.nil hl.symm) (by omega)).rep
theorem rdE_Pats : RdE 23 1 (fun xs : List MPat => [.sl 1 (xs.map MPat.enc)]) (fun xs => ∀ x ∈ xs, x.ok) := RdE.slice Try.underlying23 (by kernel_rfl) (by decide) rdE_Pat
theorem rdE_Ins : RdE 51 4 MIns.enc MIns.ok := by
  refine ⟨by kernel_rfl, fun H en W n cs x h => ?_⟩
  obtain ⟨hl, m, hf⟩ := rd_fields Try.underlying51 h
  rw [show Try.prog.cellsOf 51 = 4 from by kernel_rfl] at hl
  simp only [List.forall_mem_cons, rdE_int.1, rdE_string.1] at hf
  obtain ⟨⟨_, h0⟩, ⟨_, h1⟩, ⟨_, h2⟩, ⟨_, h3⟩, _⟩ := hf
  obtain ⟨a0, r0, o0⟩ := rdE_int.2 _ _ _ _ _ _ h0
  obtain ⟨a1, r1, o1⟩ := rdE_int.2 _ _ _ _ _ _ h1
  obtain ⟨a2, r2, o2⟩ := rdE_int.2 _ _ _ _ _ _ h2
  obtain ⟨a3, r3, o3⟩ := rdE_string.2 _ _ _ _ _ _ h3
  refine ⟨⟨a0, a1, a2, a3⟩, ?_, o0, o1, o2, o3⟩
  rw [iE_eq] at r0 r1 r2
  exact (PartsL.cons (k := 1) r0 (PartsL.cons (k := 1) r1 (PartsL.cons (k := 1) r2 (PartsL.cons (k := 1) r3 (PartsL.nil hl.symm) (by omega)) (by omega)) (by omega)) (by omega)).rep
theorem rdE_Inss : RdE 22 1 (fun xs : List MIns => [.sl 4 (xs.map MIns.enc)]) (fun xs => ∀ x ∈ xs, x.ok) := RdE.slice Try.underlying22 (by kernel_rfl) (by decide) rdE_Ins
theorem rdE_Code : RdE 25 2 MCode.enc MCode.ok := by
  refine ⟨by kernel_rfl, fun H en W n cs x h => ?_⟩
  obtain ⟨hl, m, hf⟩ := rd_fields Try.underlying25 h
  rw [show Try.prog.cellsOf 25 = 2 from by kernel_rfl] at hl
  simp only [List.forall_mem_cons, rdE_Inss.1, rdE_Pats.1] at hf
  obtain ⟨⟨_, h0⟩, ⟨_, h1⟩, _⟩ := hf
  obtain ⟨a0, r0, o0⟩ := rdE_Inss.2 _ _ _ _ _ _ h0
  obtain ⟨a1, r1, o1⟩ := rdE_Pats.2 _ _ _ _ _ _ h1
  refine ⟨⟨a0, a1⟩, ?_, o0, o1⟩
  exact (PartsL.cons (k := 1) r0 (PartsL.cons (k := 1) r1 (PartsL.nil hl.symm) (by omega)) (by omega)).rep
end Go.Proofs.Ythkgncddilkmbaa
