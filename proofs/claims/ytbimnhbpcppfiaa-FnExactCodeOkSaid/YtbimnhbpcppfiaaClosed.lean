/- The closed facts of the program that no law's own function enters, each a theorem of its own. -/
import Derived.Test.YtbimnhbpcppfiaaRows
import Derived.WalkKit
import Derived.ProofKit
import Derived.OpenShut
import Derived.JoinedOf
namespace Go.Proofs.Ytbimnhbpcppfiaa
open Go.RowKit
theorem and_t {a b : Bool} (h : a = true) (k : b = true) : (a && b) = true := by rw [h, k]; rfl
theorem cl_own : ownKnob Try.prog.godebug = none := by kernel_rfl
theorem cl_1 : (laidOutB Try.prog) = true := by kernel_rfl
theorem cl_2 : (mapsRowed Try.prog) = true := by kernel_rfl
theorem cl_6 : ((Try.prog.stops == [])) = true := by kernel_rfl
theorem cl_8 : ((Try.prog.stopKnobs == [])) = true := by kernel_rfl
theorem cl_22 : ((Rows.fnExactTyCanonRow.plainKeys == Try.prog.plainKeys)) = true := by kernel_rfl
theorem cl_24 : (Try.prog.stopsHeard) = true := by kernel_rfl
theorem cl_25 : (Try.prog.mayEnter) = true := by kernel_rfl
theorem cl_26 : ((Rows.fnExactTyCanonRow.lifted == Try.prog.liftsFinal)) = true := by kernel_rfl
theorem cl_27 : ((Try.prog.make == some Rows.fnExactTyCanonRow.make)) = true := by kernel_rfl
end Go.Proofs.Ytbimnhbpcppfiaa
